/- GWgA: Wg1, Wg2, Wg3, Wg4. -/
import Derived.Test.YtmiglhlbhbfodaaGreatDoorGRtD
import Derived.Test.YtmiglhlbhbfodaaGreatDoorGAw7
set_option maxHeartbeats 4000000
set_option maxRecDepth 100000
namespace Go.Proofs.YtmiglhlbhbfodaaGreatDoor
section
open Go.RowKit Go.Sort Go.Shelf
theorem wrAll_len:∀(cs:List (List Nat)) (D:Dsk) (i:Nat),(wrAll D i cs).1.s.length=D.s.length
 |[],_,_=>rfl
 |c::cs,D,i=>by
  unfold wrAll
  split
  ·rw[wrAll_len cs];exact writeD_len _ _ _
  ·exact writeD_len _ _ _
structure Sto.Ok(S:Sto)(N:Nat):Prop where
 fit:S.Fit
 ring:S.r.ring≤256
 slot:S.r.slot≤1
 len:S.D.s.length=N
 few:24≤N
theorem write_keep(S:Sto)(r:Rt):(S.write r).1.D.s.length=S.D.s.length∧((S.write r).1.r=S.r∨(S.write r).1.r=r):=by
 unfold Sto.write
 split
 ·exact⟨rfl,.inl rfl⟩
 ·split
  ·exact⟨wrAll_len _ _ _,.inl rfl⟩
  ·split
   ·exact⟨(syncD_len _).trans (wrAll_len _ _ _),.inl rfl⟩
   ·exact⟨(syncD_len _).trans (wrAll_len _ _ _),.inr rfl⟩
theorem Sto.Ok.alloc{S:Sto}{N:Nat}(h:S.Ok N):S.alloc.1.Ok N:=by
 have e:S.alloc.1.r=S.r∧S.alloc.1.D=S.D:=by
  unfold Sto.alloc
  split
  ·exact⟨rfl,rfl⟩
  ·split<;>exact⟨rfl,rfl⟩
 exact⟨h.fit.alloc,by rw[e.1];exact h.ring,by rw[e.1];exact h.slot,by rw[e.2];exact h.len,h.few⟩
theorem Sto.Ok.free{S:Sto}{N:Nat}(h:S.Ok N)(n:Int):(S.free n).1.Ok N:=by
 have e:(S.free n).1.r=S.r∧(S.free n).1.D=S.D:=by
  unfold Sto.free
  split<;>exact⟨rfl,rfl⟩
 exact⟨h.fit.free n,by rw[e.1];exact h.ring,by rw[e.1];exact h.slot,by rw[e.2];exact h.len,h.few⟩
theorem Sto.Ok.forget{S:Sto}{N:Nat}(h:S.Ok N):S.forget.1.Ok N:=by
 have e:S.forget.1.r=S.r∧S.forget.1.D=S.D:=by
  unfold Sto.forget
  split<;>exact⟨rfl,rfl⟩
 exact⟨h.fit.forget,by rw[e.1];exact h.ring,by rw[e.1];exact h.slot,by rw[e.2];exact h.len,h.few⟩
theorem Sto.Ok.wr{S:Sto}{N:Nat}(h:S.Ok N)(n:Int)(b:List Nat):(S.wr n b).1.Ok N:=by
 have e:(S.wr n b).1.r=S.r∧(S.wr n b).1.D.s.length=S.D.s.length:=by
  unfold Sto.wr
  split
  ·exact⟨rfl,rfl⟩
  ·split
   ·exact⟨rfl,rfl⟩
   ·split
    ·exact⟨rfl,writeB_lenN _ _ _ _ _⟩
    ·exact⟨rfl,writeB_lenN _ _ _ _ _⟩
 exact⟨h.fit.wr n b,by rw[e.1];exact h.ring,by rw[e.1];exact h.slot,by rw[e.2];exact h.len,h.few⟩
theorem Sto.Ok.rd{S:Sto}{N:Nat}(h:S.Ok N)(n:Int):(S.rd n).1.Ok N:=by
 have e:(S.rd n).1.r=S.r∧(S.rd n).1.D=S.D:=by
  unfold Sto.rd
  split<;>exact⟨rfl,rfl⟩
 exact⟨h.fit.rd n,by rw[e.1];exact h.ring,by rw[e.1];exact h.slot,by rw[e.2];exact h.len,h.few⟩
theorem Sto.Ok.commit{S:Sto}{N:Nat}(h:S.Ok N)(b:List Nat):(S.commit b).1.Ok N:=by
 have e:(S.commit b).1.D.s.length=S.D.s.length∧((S.commit b).1.r=S.r∨(S.commit b).1.r=S.nextR b):=by
  unfold Sto.commit
  split
  ·exact⟨rfl,.inl rfl⟩
  ·split
   ·exact⟨rfl,.inl rfl⟩
   ·split
    ·exact⟨syncD_len _,.inl rfl⟩
    ·have q:=write_keep ({S with D:=S.synD}:Sto) (S.nextR b)
     exact⟨q.1.trans (syncD_len _),q.2⟩
 refine⟨h.fit.commit b,?_,?_,by rw[e.1];exact h.len,h.few⟩
 ·rcases e.2 with q|q
  ·rw[q];exact h.ring
  ·rw[q];exact h.ring
 ·rcases e.2 with q|q
  ·rw[q];exact h.slot
  ·rw[q];show 1 - S.r.slot≤1;omega
theorem Sto.Ok.setD{S:Sto}{N:Nat}(h:S.Ok N){D:Dsk}(hl:D.s.length=N):({S with D:=D}:Sto).Ok N:=⟨h.fit.disk D S.bad,h.ring,h.slot,hl,h.few⟩
theorem fmtS_ok{D:Dsk}{log:Int}:(fmtS D log).1.s.length=D.s.length∧∀S,(fmtS D log).2.1=some S→S.Ok D.s.length∧S.D=(fmtS D log).1∧(fmtS D log).2.2=0:=by
 have hk:=write_keep (sto0 D) (fmtR D log.toNat)
 have hf:∀S,(fmtS D log).2.1=some S→S.Fit:=fun S h=>fmtS_fit h
 unfold fmtS at hf ⊢
 split
 ·exact⟨rfl,fun S h=>by cases h⟩
 ·rename_i h1
  split
  ·exact⟨rfl,fun S h=>by cases h⟩
  ·rename_i h2
   rw[if_neg h1,if_neg h2]at hf
   split
   ·exact⟨hk.1,fun S h=>by cases h⟩
   ·rename_i h3
    rw[if_neg h3]at hf
    refine⟨hk.1,fun S h=>?_⟩
    have hr:((sto0 D).write (fmtR D log.toNat)).1.r=fmtR D log.toNat:=by
     unfold Sto.write at h3 ⊢
     split
     ·rename_i q;rw[if_pos q]at h3;exact absurd q h3
     ·rename_i q
      rw[if_neg q]at h3
      split
      ·rename_i q2;rw[if_pos q2]at h3;exact absurd q2 h3
      ·rename_i q2
       rw[if_neg q2]at h3
       split
       ·rename_i q3;rw[if_pos q3]at h3;exact absurd q3 h3
       ·rfl
    have hfit:=hf S h
    cases h
    refine⟨⟨hfit,by rw[hr];show log.toNat≤256;omega,by rw[hr];exact Nat.zero_le _,hk.1,?_⟩,rfl,rfl⟩
    have h4:¬roomN D.s.length log.toNat<4:=fun q=>h2 (.inr (.inr q))
    unfold roomN at h4
    omega
theorem openS_ok{D:Dsk}(hD:D.OK){S:Sto}(h:openS D=some S):S.Ok D.s.length∧S.D=D:=by
 have hf:=openS_fit hD h
 unfold openS at h
 cases hb:bstN D 2 with
 |none=>rw[hb]at h;cases h
 |some r=>
  rw[hb]at h
  injection h with h
  subst h
  obtain⟨j,hj2,hj⟩:=bstN_from 2 hb
  unfold getR at hj
  split at hj
  ·rename_i q
   cases hj
   have q1:=q.2.1
   unfold getOK1 at q1
   simp only[Bool.and_eq_true,decide_eq_true_eq]at q1
   refine⟨⟨hf,q1.1,by show j≤1;omega,rfl,?_⟩,rfl⟩
   have:=q1.2.1
   have:=q1.2.2
   unfold roomN at*
   omega
  ·cases hj
theorem natsAt_notK{w:World}{g:Nat}{cs:Array Value}{t:TypeId}{k:IntKind}{v:Option Addr}{bo:List Nat}(hb:Blk w g cs t)(hn:NatsAt w k v bo)(hc:∀(i:Nat) (x:Int),cs[i]? ≠some (Value.int k x)):bo=[]∨∀x,v=some x→¬x.block=g:=by
 rcases hn with h|⟨b,off,rfl,hlt,hx⟩
 ·exact .inl h
 ·cases bo with
  |nil=>exact .inl rfl
  |cons z l=>
   refine .inr (fun x hx' e=>?_)
   cases hx'
   have h1:=hx 0 z rfl
   have h2:=cell_blk hb (off+0)
   dsimp only at e
   rw[←e,h1]at h2
   exact hc _ _ h2.symm
def w7C(d:Nat)(sp:Option Addr)(a:Option Addr)(n c:Nat)(D:Dsk)(z:RZ)(K:Bool):Array Value:=
 #[.pointer (some ⟨d,0,none⟩),.pointer sp,.slice a n c,.bool D.off,.int .i64 D.calls,.int .i64 D.after,.bool D.done,.int .i64 z.ring,.int .i64 z.ns,.slice z.na z.nl z.nc,.int .i64 z.rs,.slice z.ca z.cl z.cc,.slice z.ba z.bl z.bc,.int .i64 z.gen,.int .i64 z.slot,.bool z.bad,.bool K]
theorem w7C_not(d:Nat)(sp a:Option Addr)(n c:Nat)(D:Dsk)(z:RZ)(K:Bool):(∀(i:Nat) (x:Int),(w7C d sp a n c D z K)[i]? ≠some (.int .u8 x))∧∀(i:Nat) (x:Int),(w7C d sp a n c D z K)[i]? ≠some (.int .u64 x):=by
 constructor
 ·intro i x q;have:=Array.mem_of_getElem? q;simp[w7C]at this
 ·intro i x q;have:=Array.mem_of_getElem? q;simp[w7C]at this
theorem StoIn.keptX{w w':World}{x p d bs m:Nat}{S:Sto}{cs:Array Value}{t:TypeId}(h:StoIn w p d bs m S)(hb:Blk w x cs t)(h8:∀(i:Nat) (y:Int),cs[i]? ≠some (.int .u8 y))(h64:∀(i:Nat) (y:Int),cs[i]? ≠some (.int .u64 y))(k:Kept (fun j=>j=x) w w')(hp:p≠x)(hx:¬dod d bs m x):StoIn w' p d bs m S:=by
 obtain⟨cap,wa,wc,ba,bc,na,nc,h1,h2,h3,h4,h5⟩:=h
 exact⟨cap,wa,wc,ba,bc,na,nc,h1.kept k hp,h2.kept k (fun q=>hx (.inl q.symm)) (fun q=>hx (.inr (.inl q.symm))) (fun q=>hx (.inr (.inr q.symm))),⟨h3.ws.kept' k (natsAt_notK hb h3.ws h64),h3.bs.kept' k (natsAt_notK hb h3.bs h8),h3.wcap,h3.bcap,h3.bnil,h3.w64,h3.bts,h3.few⟩,h4.kept' k (natsAt_notK hb h4 h64),h5⟩
def W7K(nb:Nat)(w:World)(x d bs m N:Nat)(D:Dsk)(sp a:Option Addr)(c:Nat)(z:RZ):Prop:=
 ∃S p A,S.D=D∧sp=some ⟨p,0,none⟩∧nb≤p∧p≠x∧StoIn w p d bs m S∧RSp w S A (fun j=>j=x∨FS p d bs m j)∧A.a=a∧A.c=c∧z=rzOf S A∧S.Ok N
structure W7(nb:Nat)(w:World)(x d bs m N:Nat)(D:Dsk)(sp a:Option Addr)(c:Nat)(z:RZ)(K:Bool):Prop where
 lo:nb≤x∧nb≤d∧nb≤bs∧nb≤m
 box:Blk w x (w7C d sp a D.s.length c D z K) 112
 disk:∃cap,DiskIn w d bs cap m D
 len:D.s.length=N
 ds:SecsAt w a D.s
 da:∀y,a=some y→¬dod d bs m y.block
 dx:D.s=[]∨∀y,a=some y→¬y.block=x
 xd:¬dod d bs m x
 st:K=true→W7K nb w x d bs m N D sp a c z
structure W7b(nb:Nat)(w:World)(x d bs m N:Nat)(D:Dsk)(sp a:Option Addr)(c:Nat)(z:RZ)(K:Bool):Prop where
 lo:nb≤x∧nb≤d∧nb≤bs∧nb≤m
 box:Blk w x (w7C d sp a D.s.length c D z K) 112
 disk:∃cap,DiskIn w d bs cap m D
 len:D.s.length=N
 ds:SecsAt w a D.s
 da:∀y,a=some y→¬dod d bs m y.block
 dx:D.s=[]∨∀y,a=some y→¬y.block=x
 xd:¬dod d bs m x
theorem W7.b{nb:Nat}{w:World}{x d bs m N:Nat}{D:Dsk}{sp a:Option Addr}{c:Nat}{z:RZ}{K:Bool}(h:W7 nb w x d bs m N D sp a c z K):W7b nb w x d bs m N D sp a c z K:=⟨h.lo,h.box,h.disk,h.len,h.ds,h.da,h.dx,h.xd⟩
theorem W7K.same{nb:Nat}{w w':World}{x d bs m N:Nat}{D:Dsk}{sp a:Option Addr}{c:Nat}{z:RZ}(h:W7K nb w x d bs m N D sp a c z)(k:Same w w'):W7K nb w' x d bs m N D sp a c z:=by
 obtain⟨S,p,A,h1,h2,h3,h4,h5,h6,h7⟩:=h
 exact⟨S,p,A,h1,h2,h3,h4,h5.same k,h6.same k,h7⟩
theorem W7.same{nb:Nat}{w w':World}{x d bs m N:Nat}{D:Dsk}{sp a:Option Addr}{c:Nat}{z:RZ}{K:Bool}(h:W7 nb w x d bs m N D sp a c z K)(k:Same w w'):W7 nb w' x d bs m N D sp a c z K:=by
 obtain⟨cap,hd⟩:=h.disk
 exact⟨h.lo,h.box.kept k (fun q=>q),⟨cap,hd.same k⟩,h.len,h.ds.same k,h.da,h.dx,h.xd,fun q=>(h.st q).same k⟩
theorem W7K.keptX{nb:Nat}{w w':World}{x d bs m N:Nat}{D:Dsk}{sp a:Option Addr}{c:Nat}{z:RZ}{cs:Array Value}{t:TypeId}(h:W7K nb w x d bs m N D sp a c z)(hb:Blk w x cs t)(h8:(∀(i:Nat) (y:Int),cs[i]? ≠some (.int .u8 y))∧∀(i:Nat) (y:Int),cs[i]? ≠some (.int .u64 y))(k:Kept (fun j=>j=x) w w')(hx:¬dod d bs m x):W7K nb w' x d bs m N D sp a c z:=by
 obtain⟨S,p,A,h1,h2,h3,h4,h5,h6,h7⟩:=h
 exact⟨S,p,A,h1,h2,h3,h4,h5.keptX hb h8.1 h8.2 k h4 hx,h6.kept k (fun j q=>.inl q),h7⟩
theorem Sto.Ok.ne{S:Sto}{N:Nat}(h:S.Ok N):S.D.s≠[]∧S.nwords≠[]∧S.r.words≠[]:=by
 have f:=h.fit
 have e:∀{ws:List Nat},mapOK (S.nsize:Nat) ws=true→ws≠[]:=fun hm q=>by
  unfold mapOK at hm
  simp only[Bool.and_eq_true,decide_eq_true_eq]at hm
  have h1:=hm.1.2
  have h2:=f.four
  rw[q]at h1
  simp at h1
  omega
 exact⟨fun q=>by have h1:=h.len;have h2:=h.few;rw[q]at h1;simp at h1;omega,e f.now,e f.cnt⟩
theorem fmtS_err{D:Dsk}{log:Int}(h:(fmtS D log).2.1=none):(fmtS D log).2.2≠0:=by
 unfold fmtS at h ⊢
 split
 ·exact fun q=>by cases q
 ·rename_i h1
  rw[if_neg h1]at h
  split
  ·exact fun q=>by cases q
  ·rename_i h2
   rw[if_neg h2]at h
   split
   ·rename_i h3;exact h3
   ·rename_i h3
    rw[if_neg h3]at h
    cases h
end
section
open Go.RowKit Go.Sort Go.Shelf
def BegP(w:World)(N:Nat)(e:Ending)(w':World):Prop:=
 (∃x d bs m D sp a c z K,e=.returned (.tuple #[.pointer (some ⟨x,0,none⟩),.bool true])∧W7 w.heap.size w' x d bs m N D sp a c z K)∧Same w w'
theorem w7_begun(n log:Int)(w:World):
 Calls Tryz.prog 26 #[.int .i64 n,.int .i64 log] w (BegP w (newD n).s.length):=by
 have SN:=qh (sd_new n w)
 have RN:=qh (rs_new n)
 have SF:=qh (fun w' d bs cap m (h:DiskIn w' d bs cap m (newD n))=>st_Format h log)
 have FO:=qh (@fmtS_ok (newD n) log)
 have FE:=qh (@fmtS_err (newD n) log)
 have RF:=qh (fun a c fp w' h1 h2 h3=>rt_format a c (newD n) (newD_ok n) log fp w' h1 h2 h3)
 unfold FmtPost at SF
 obtain⟨N,hN⟩:∃N,(newD n).s.length=N:=⟨_,rfl⟩
 obtain⟨q,hq⟩:∃q,fmtS (newD n) log=q:=⟨_,rfl⟩
 rw[hq]at SF FO FE RF
 obtain⟨D1,hD1⟩:∃D1,newD n=D1:=⟨_,rfl⟩
 rw[hD1]at SN RN SF FO RF hN
 rw[hD1,hN]
 rw[hN]at FO
 obtain⟨D2,o,k⟩:=q
 dsimp only at SF FO FE RF
 have HN:=qh hN
 unfold refV at RF
 clear hq hD1 hN
 go_enter Tryz.func26,Tryz.ntmps26
 go_wp2_with fail
 with_reducible refine SN.out.mono ?_
 rintro r w1 ⟨d,bs,cap,m,rfl,hd,hz1,hz2,hz3,k1⟩
 have K1:=qh k1
 have SF1:=qh (SF.out w1 d bs cap m hd)
 have LT:=qh (show d<w1.heap.size∧bs<w1.heap.size∧m<w1.heap.size from⟨hd.box.lt,hd.safe.lt,hd.map.lt⟩)
 have LO:=qh (show w.heap.size≤d∧w.heap.size≤bs∧w.heap.size≤m from⟨hz1,hz2,hz3⟩)
 clear hd k1 SN SF hz1 hz2 hz3
 go_wp2_with fail
 with_reducible refine SF1.out.mono ?_
 rintro r w2 ⟨hp,k2⟩
 have K2:=qh k2
 have K02:=qh (show Same w w2 from K1.out.step k2 (fun j hj q=>by have:=LO.out;rcases q with q|q|q<;>omega))
 cases o with
 |none=>
  obtain⟨rfl,cap2,hd2⟩:=hp
  have HD2:=qh hd2
  have NK:=qh (FE.out rfl)
  clear k2 hd2 SF1
  go_wp2_with fail
  with_reducible refine(RN.out _).mono ?_
  rintro r w3 ⟨a3,c3,rfl,⟨hs3,hf3⟩,k3⟩
  have K23:=qh k3
  have RF1:=qh (RF.out a3 c3 (fun j=>dod d bs m j) w3)
  have HS3:=qh hs3
  have HF3:=qh hf3
  clear hs3 hf3 k3 RN RF
  unfold refV
  go_wp2_with fail
  have hlt3:∀g,dod d bs m g→g<w3.heap.size:=fun g hg=>by have h1:=LT.out;have h2:=K2.out.size;have h3:=K23.out.size;rcases hg with q|q|q<;>omega
  have hap3:Apt a3 (fun j=>dod d bs m j):=fun x hx q=>by have h0:w2.heap.size≤x.block:=(show∀x,a3=some x→w2.heap.size≤x.block from HF3.out) x hx;have h1:=LT.out;have h2:=K2.out.size;rcases q with q|q|q<;>omega
  with_reducible refine(RF1.out hlt3 hap3 HS3.out).mono ?_
  rintro r w4 ⟨a4,c4,z4,rfl,hs4,hp4, -,k4⟩
  have HS4:=qh hs4
  have HP4:=qh hp4
  have K24:=qh (K23.out.trans k4)
  clear hs4 hp4 k4 RF1 HS3 HF3
  unfold rzC
  go_upto_region 4 with fail
  obtain⟨g,hg⟩:∃g,w4.heap.size=g:=⟨_,rfl⟩
  rw[hg]
  refine cutWl (fun wn=>Fr wn [(g,#[.slice a4 D2.s.length c4,.bool D2.off,.int .i64 D2.calls,.int .i64 D2.after,.bool D2.done,.int .i64 z4.ring,.int .i64 z4.ns,.slice z4.na z4.nl z4.nc,.int .i64 z4.rs,.slice z4.ca z4.cl z4.cc,.slice z4.ba z4.bl z4.bc,.int .i64 z4.gen,.int .i64 z4.slot,.bool z4.bad],107)]∧Same w4 wn) ⟨⟨Blk.new' _ _ _ hg.symm,trivial⟩,(Kept.refl _ _).alloc _⟩ ?_
  rintro w5 ⟨hf5,k5⟩
  have F5:=qh hf5
  have K45:=qh k5
  have p0:=cell_blk hf5.1
  have z5:=hf5.1.lt
  clear hf5 k5 hg
  have gk:(((k:Nat):Int)==0)=false:=by have:=NK.out;simpa using this
  have gk2:(((k:Nat):Int) !=0)=true:=by have:=NK.out;simpa using this
  clear NK FE
  go_wp2_with fail
  go_ret2
  have kz:Same w4 (w5.alloc (.cells (w7C d none a4 D2.s.length c4 D2 z4 false) 112)):=K45.out.alloc _
  have hlt:=LT.out;have hk2:=K2.out.size;have hk3:=K24.out.size;have hk5:=K45.out.size
  have hlo:=LO.out
  refine⟨⟨w5.heap.size,d,bs,m,D2,none,a4,c4,z4,false,rfl,⟨⟨by omega,hlo.1,hlo.2.1,hlo.2.2⟩,Blk.new' _ _ _ rfl,⟨cap2,(HD2.out.same K24.out).same kz⟩,FO.out.1,HS4.out.same kz,fun y hy=>HP4.out y hy,(secsAt_lt HS4.out).imp_right (fun h y hy q=>by have:=h y hy;omega),fun q=>by rcases q with q|q|q<;>omega,fun q=>by cases q⟩⟩,(K02.out.trans K24.out).trans kz⟩
 |some S=>
  obtain⟨p,rfl,hst,hp2⟩:=hp
  have ST2:=qh hst
  have FS2:=qh (FO.out.2 S rfl)
  obtain rfl:k=0:=FS2.out.2.2
  have PL:=qh (show∀g,FS p d bs m g→g<w2.heap.size from hst.ltF)
  have HP2:=qh hp2
  clear k2 hst hp2 SF1
  go_wp2_with fail
  with_reducible refine(RN.out _).mono ?_
  rintro r w3 ⟨a3,c3,rfl,⟨hs3,hf3⟩,k3⟩
  have K23:=qh k3
  have RF1:=qh (RF.out a3 c3 (fun j=>FS p d bs m j) w3)
  have HS3:=qh hs3
  have HF3:=qh hf3
  clear hs3 hf3 k3 RN RF
  unfold refV
  go_wp2_with fail
  have hlt3:∀g,FS p d bs m g→g<w3.heap.size:=fun g hg=>Nat.lt_of_lt_of_le (PL.out g hg) K23.out.size
  have hap3:Apt a3 (fun j=>FS p d bs m j):=fun x hx q=>by have h0:w2.heap.size≤x.block:=(show∀x,a3=some x→w2.heap.size≤x.block from HF3.out) x hx;have h1:=PL.out _ q;omega
  with_reducible refine(RF1.out hlt3 hap3 HS3.out).mono ?_
  rintro r w4 ⟨a4,c4,z4,rfl,hs4,hp4,hS4,k4⟩
  obtain⟨hSD,A,hA1,hA2,hz4,hr4⟩:=hS4 S rfl
  have HS4:=qh hs4
  have HP4:=qh hp4
  have HR4:=qh hr4
  have HZ:=qh (show A.a=a4∧A.c=c4∧z4=rzOf S A from⟨hA1,hA2,hz4⟩)
  have HSD:=qh hSD
  have K24:=qh (K23.out.trans k4)
  clear hs4 hp4 k4 RF1 HS3 HF3 hlt3 hap3 hSD hA1 hA2 hz4 hr4 hS4
  unfold rzC
  go_upto_region 4 with fail
  obtain⟨g,hg⟩:∃g,w4.heap.size=g:=⟨_,rfl⟩
  rw[hg]
  refine cutWl (fun wn=>Fr wn [(g,#[.slice a4 D2.s.length c4,.bool D2.off,.int .i64 D2.calls,.int .i64 D2.after,.bool D2.done,.int .i64 z4.ring,.int .i64 z4.ns,.slice z4.na z4.nl z4.nc,.int .i64 z4.rs,.slice z4.ca z4.cl z4.cc,.slice z4.ba z4.bl z4.bc,.int .i64 z4.gen,.int .i64 z4.slot,.bool z4.bad],107)]∧Same w4 wn) ⟨⟨Blk.new' _ _ _ hg.symm,trivial⟩,(Kept.refl _ _).alloc _⟩ ?_
  rintro w5 ⟨hf5,k5⟩
  have F5:=qh hf5
  have K45:=qh k5
  have p0:=cell_blk hf5.1
  have z5:=hf5.1.lt
  clear hf5 k5 hg
  clear FE
  go_wp2_with fail
  go_ret2
  have kz:Same w4 (w5.alloc (.cells (w7C d (some ⟨p,0,none⟩) a4 D2.s.length c4 D2 z4 true) 112)):=K45.out.alloc _
  have hlt:=LT.out;have hk2:=K2.out.size;have hk3:=K24.out.size;have hk5:=K45.out.size
  have hlo:=LO.out
  have hpl:=PL.out
  have h1s:=K1.out.size
  have hne:=FS2.out.1.ne
  refine⟨⟨w5.heap.size,d,bs,m,D2,some ⟨p,0,none⟩,a4,c4,z4,true,rfl,⟨⟨by omega,hlo.1,hlo.2.1,hlo.2.2⟩,Blk.new' _ _ _ rfl,?_,FO.out.1,HS4.out.same kz,fun y hy q=>HP4.out y hy (.inr q),(secsAt_lt HS4.out).imp_right (fun h y hy q=>by have:=h y hy;omega),fun q=>by rcases q with q|q|q<;>omega,fun _=>?_⟩⟩,(K02.out.trans K24.out).trans kz⟩
  ·obtain⟨cap2,hd2⟩:=ST2.out.disk
   rw[HSD.out]at hd2
   exact⟨cap2,(hd2.same K24.out).same kz⟩
  ·refine⟨S,p,A,HSD.out,rfl,by have:=HP2.out;omega,by have:=hpl p (.inl rfl);omega,(ST2.out.same K24.out).same kz,?_,HZ.out.1,HZ.out.2.1,HZ.out.2.2,FS2.out.1⟩
   refine HR4.out.more kz hne.1 hne.2.1 hne.2.2 (fun j q=>?_) (fun j q=>?_)
   ·rcases q with q|q
    ·exact .inr (by omega)
    ·exact .inl q
   ·have hsz:∀C,(w5.alloc C).heap.size=w5.heap.size+1:=fun C=>by simp
    rw[hsz]
    rcases q with q|q
    ·omega
    ·have:=hpl j q;omega
end
section
open Go.RowKit Go.Sort Go.Shelf
theorem Blk.setW1{w:World}{b:Nat}{v0 v1 v2 v3 v4 v5 v6 v7 v8 v9 v10 v11 v12 v13 v14 v15 v16 u1 u2 u3 u4 u5 u6 u7 u8 u9 u10 u11 u12 u13 u14 u15 u16:Value}{t:TypeId}(h:Blk w b #[v0,v1,v2,v3,v4,v5,v6,v7,v8,v9,v10,v11,v12,v13,v14,v15,v16] t):
 Blk ((((((((((((((((w.setCell ⟨b,1,none⟩ u1).setCell ⟨b,2,none⟩ u2).setCell ⟨b,3,none⟩ u3).setCell ⟨b,4,none⟩ u4).setCell ⟨b,5,none⟩ u5).setCell ⟨b,6,none⟩ u6).setCell ⟨b,7,none⟩ u7).setCell ⟨b,8,none⟩ u8).setCell ⟨b,9,none⟩ u9).setCell ⟨b,10,none⟩ u10).setCell ⟨b,11,none⟩ u11).setCell ⟨b,12,none⟩ u12).setCell ⟨b,13,none⟩ u13).setCell ⟨b,14,none⟩ u14).setCell ⟨b,15,none⟩ u15).setCell ⟨b,16,none⟩ u16) b #[v0,u1,u2,u3,u4,u5,u6,u7,u8,u9,u10,u11,u12,u13,u14,u15,u16] t:=by
 have h1:Blk _ b #[v0,u1,v2,v3,v4,v5,v6,v7,v8,v9,v10,v11,v12,v13,v14,v15,v16] t:=h.set 1 u1
 have h2:Blk _ b #[v0,u1,u2,v3,v4,v5,v6,v7,v8,v9,v10,v11,v12,v13,v14,v15,v16] t:=h1.set 2 u2
 have h3:Blk _ b #[v0,u1,u2,u3,v4,v5,v6,v7,v8,v9,v10,v11,v12,v13,v14,v15,v16] t:=h2.set 3 u3
 have h4:Blk _ b #[v0,u1,u2,u3,u4,v5,v6,v7,v8,v9,v10,v11,v12,v13,v14,v15,v16] t:=h3.set 4 u4
 have h5:Blk _ b #[v0,u1,u2,u3,u4,u5,v6,v7,v8,v9,v10,v11,v12,v13,v14,v15,v16] t:=h4.set 5 u5
 have h6:Blk _ b #[v0,u1,u2,u3,u4,u5,u6,v7,v8,v9,v10,v11,v12,v13,v14,v15,v16] t:=h5.set 6 u6
 have h7:Blk _ b #[v0,u1,u2,u3,u4,u5,u6,u7,v8,v9,v10,v11,v12,v13,v14,v15,v16] t:=h6.set 7 u7
 have h8:Blk _ b #[v0,u1,u2,u3,u4,u5,u6,u7,u8,v9,v10,v11,v12,v13,v14,v15,v16] t:=h7.set 8 u8
 have h9:Blk _ b #[v0,u1,u2,u3,u4,u5,u6,u7,u8,u9,v10,v11,v12,v13,v14,v15,v16] t:=h8.set 9 u9
 have h10:Blk _ b #[v0,u1,u2,u3,u4,u5,u6,u7,u8,u9,u10,v11,v12,v13,v14,v15,v16] t:=h9.set 10 u10
 have h11:Blk _ b #[v0,u1,u2,u3,u4,u5,u6,u7,u8,u9,u10,u11,v12,v13,v14,v15,v16] t:=h10.set 11 u11
 have h12:Blk _ b #[v0,u1,u2,u3,u4,u5,u6,u7,u8,u9,u10,u11,u12,v13,v14,v15,v16] t:=h11.set 12 u12
 have h13:Blk _ b #[v0,u1,u2,u3,u4,u5,u6,u7,u8,u9,u10,u11,u12,u13,v14,v15,v16] t:=h12.set 13 u13
 have h14:Blk _ b #[v0,u1,u2,u3,u4,u5,u6,u7,u8,u9,u10,u11,u12,u13,u14,v15,v16] t:=h13.set 14 u14
 have h15:Blk _ b #[v0,u1,u2,u3,u4,u5,u6,u7,u8,u9,u10,u11,u12,u13,u14,u15,v16] t:=h14.set 15 u15
 exact h15.set 16 u16
theorem Blk.setWR{w:World}{b:Nat}{v0 v1 v2 v3 v4 v5 v6 v7 v8 v9 v10 v11 v12 v13 v14 v15 v16 u2 u3 u4 u5 u6 u7 u8 u9 u10 u11 u12 u13 u14 u15:Value}{t:TypeId}(h:Blk w b #[v0,v1,v2,v3,v4,v5,v6,v7,v8,v9,v10,v11,v12,v13,v14,v15,v16] t):
 Blk ((((((((((((((w.setCell ⟨b,2,none⟩ u2).setCell ⟨b,3,none⟩ u3).setCell ⟨b,4,none⟩ u4).setCell ⟨b,5,none⟩ u5).setCell ⟨b,6,none⟩ u6).setCell ⟨b,7,none⟩ u7).setCell ⟨b,8,none⟩ u8).setCell ⟨b,9,none⟩ u9).setCell ⟨b,10,none⟩ u10).setCell ⟨b,11,none⟩ u11).setCell ⟨b,12,none⟩ u12).setCell ⟨b,13,none⟩ u13).setCell ⟨b,14,none⟩ u14).setCell ⟨b,15,none⟩ u15) b #[v0,v1,u2,u3,u4,u5,u6,u7,u8,u9,u10,u11,u12,u13,u14,u15,v16] t:=by
 have h2:Blk _ b #[v0,v1,u2,v3,v4,v5,v6,v7,v8,v9,v10,v11,v12,v13,v14,v15,v16] t:=h.set 2 u2
 have h3:Blk _ b #[v0,v1,u2,u3,v4,v5,v6,v7,v8,v9,v10,v11,v12,v13,v14,v15,v16] t:=h2.set 3 u3
 have h4:Blk _ b #[v0,v1,u2,u3,u4,v5,v6,v7,v8,v9,v10,v11,v12,v13,v14,v15,v16] t:=h3.set 4 u4
 have h5:Blk _ b #[v0,v1,u2,u3,u4,u5,v6,v7,v8,v9,v10,v11,v12,v13,v14,v15,v16] t:=h4.set 5 u5
 have h6:Blk _ b #[v0,v1,u2,u3,u4,u5,u6,v7,v8,v9,v10,v11,v12,v13,v14,v15,v16] t:=h5.set 6 u6
 have h7:Blk _ b #[v0,v1,u2,u3,u4,u5,u6,u7,v8,v9,v10,v11,v12,v13,v14,v15,v16] t:=h6.set 7 u7
 have h8:Blk _ b #[v0,v1,u2,u3,u4,u5,u6,u7,u8,v9,v10,v11,v12,v13,v14,v15,v16] t:=h7.set 8 u8
 have h9:Blk _ b #[v0,v1,u2,u3,u4,u5,u6,u7,u8,u9,v10,v11,v12,v13,v14,v15,v16] t:=h8.set 9 u9
 have h10:Blk _ b #[v0,v1,u2,u3,u4,u5,u6,u7,u8,u9,u10,v11,v12,v13,v14,v15,v16] t:=h9.set 10 u10
 have h11:Blk _ b #[v0,v1,u2,u3,u4,u5,u6,u7,u8,u9,u10,u11,v12,v13,v14,v15,v16] t:=h10.set 11 u11
 have h12:Blk _ b #[v0,v1,u2,u3,u4,u5,u6,u7,u8,u9,u10,u11,u12,v13,v14,v15,v16] t:=h11.set 12 u12
 have h13:Blk _ b #[v0,v1,u2,u3,u4,u5,u6,u7,u8,u9,u10,u11,u12,u13,v14,v15,v16] t:=h12.set 13 u13
 have h14:Blk _ b #[v0,v1,u2,u3,u4,u5,u6,u7,u8,u9,u10,u11,u12,u13,u14,v15,v16] t:=h13.set 14 u14
 exact h14.set 15 u15
theorem Blk.setWD{w:World}{b:Nat}{v0 v1 v2 v3 v4 v5 v6 v7 v8 v9 v10 v11 v12 v13 v14 v15 v16 u2 u3 u4 u5 u6:Value}{t:TypeId}(h:Blk w b #[v0,v1,v2,v3,v4,v5,v6,v7,v8,v9,v10,v11,v12,v13,v14,v15,v16] t):
 Blk (((((w.setCell ⟨b,2,none⟩ u2).setCell ⟨b,3,none⟩ u3).setCell ⟨b,4,none⟩ u4).setCell ⟨b,5,none⟩ u5).setCell ⟨b,6,none⟩ u6) b #[v0,v1,u2,u3,u4,u5,u6,v7,v8,v9,v10,v11,v12,v13,v14,v15,v16] t:=by
 have h2:Blk _ b #[v0,v1,u2,v3,v4,v5,v6,v7,v8,v9,v10,v11,v12,v13,v14,v15,v16] t:=h.set 2 u2
 have h3:Blk _ b #[v0,v1,u2,u3,v4,v5,v6,v7,v8,v9,v10,v11,v12,v13,v14,v15,v16] t:=h2.set 3 u3
 have h4:Blk _ b #[v0,v1,u2,u3,u4,v5,v6,v7,v8,v9,v10,v11,v12,v13,v14,v15,v16] t:=h3.set 4 u4
 have h5:Blk _ b #[v0,v1,u2,u3,u4,u5,v6,v7,v8,v9,v10,v11,v12,v13,v14,v15,v16] t:=h4.set 5 u5
 exact h5.set 6 u6
def W7P(nb:Nat)(w:World)(x d bs m N:Nat)(e:Ending)(w':World):Prop:=e=.returned (.bool true)∧(∃D sp a c z K,W7 nb w' x d bs m N D sp a c z K)∧Kept (fun j=>nb≤j) w w'
theorem W7.put{nb:Nat}{w wf:World}{x d bs m N:Nat}{D:Dsk}{sp a:Option Addr}{c:Nat}{z:RZ}{K:Bool}{cs:Array Value}{t:TypeId}(lo:nb≤x∧nb≤d∧nb≤bs∧nb≤m)(hb:Blk w x cs t)(h8:(∀(i:Nat) (y:Int),cs[i]? ≠some (.int .u8 y))∧∀(i:Nat) (y:Int),cs[i]? ≠some (.int .u64 y))(k:Kept (fun j=>j=x) w wf)(hf:Blk wf x (w7C d sp a D.s.length c D z K) 112)
 (hd:∃cap,DiskIn w d bs cap m D) (hl:D.s.length=N) (hs:SecsAt w a D.s) (da:∀y,a=some y→¬dod d bs m y.block) (dx:D.s=[]∨∀y,a=some y→¬y.block=x) (xd:¬dod d bs m x) (st:K=true→W7K nb w x d bs m N D sp a c z):W7 nb wf x d bs m N D sp a c z K:=by
 obtain⟨cap,hd⟩:=hd
 exact⟨lo,hf,⟨cap,hd.kept k (fun q=>xd (.inl q.symm)) (fun q=>xd (.inr (.inl q.symm))) (fun q=>xd (.inr (.inr q.symm)))⟩,hl,hs.kept k dx,da,dx,xd,fun q=>(st q).keptX hb h8 k xd⟩
theorem st_openQ{w:World}{d bs cap m:Nat}{D:Dsk}(h:DiskIn w d bs cap m D):
 Calls Tryz.prog 18 #[.pointer (some ⟨d,0,none⟩)] w fun e w'=>(match(openQ D).1 with
  |none=>e=.returned (.tuple #[.pointer none,.int .i64 ((openQ D).2:Nat)])
  |some S=>∃p,e=.returned (.tuple #[.pointer (some ⟨p,0,none⟩),.int .i64 0])∧StoIn w' p d bs m S∧w.heap.size≤p)∧Same w w':=by
 refine(st_open h).mono ?_
 rintro e w' ⟨q,k⟩
 refine⟨?_,k⟩
 unfold openQ
 by_cases ho:D.off=true
 ·rw[if_pos ho]at q ⊢
  exact q
 ·rw[if_neg ho]at q ⊢
  cases hS:openS D with
  |none=>rw[hS]at q;exact q
  |some S=>rw[hS]at q;exact q
theorem openQ_ok{D:Dsk}(hD:D.OK):(∀S,(openQ D).1=some S→S.Ok D.s.length∧S.D=D∧(openQ D).2=0)∧((openQ D).1=none→(openQ D).2≠0):=by
 unfold openQ
 by_cases ho:D.off=true
 ·rw[if_pos ho]
  exact⟨fun S q=>(by cases q),fun _ q=>(by cases q)⟩
 ·rw[if_neg ho]
  cases hS:openS D with
  |none=>exact⟨fun S q=>(by cases q),fun _ q=>(by cases q)⟩
  |some S=>
   have:=openS_ok hD hS
   exact⟨fun S' q=>(by cases q;exact⟨this.1,this.2,rfl⟩),fun q=>(by cases q)⟩
theorem w7_open{nb:Nat}{w:World}{x d bs m N:Nat}{D:Dsk}{sp a:Option Addr}{c:Nat}{z:RZ}{K:Bool}(h:W7b nb w x d bs m N D sp a c z K):
 Calls Tryz.prog 64 #[.pointer (some ⟨x,0,none⟩)] w (W7P nb w x d bs m N):=by
 obtain⟨cap,hd⟩:=h.disk
 have OP:=qh (fun w' (k:Same w w')=>st_openQ (hd.same k))
 have OO:=openQ_ok hd.ok
 have RO:=qh (fun fp w' (k:Same w w') h1 h2=>rt_open a c D hd.ok fp w' h1 h2 (h.ds.same k))
 have H:=qh h
 have HD:=qh hd
 have LT:=qh (show d<w.heap.size∧bs<w.heap.size∧m<w.heap.size∧x<w.heap.size from⟨hd.box.lt,hd.safe.lt,hd.map.lt,h.box.lt⟩)
 have F0:=qh (show Fr w [(x,#[.pointer (some ⟨d,0,none⟩),.pointer sp,.slice a D.s.length c,.bool D.off,.int .i64 D.calls,.int .i64 D.after,.bool D.done,.int .i64 z.ring,.int .i64 z.ns,.slice z.na z.nl z.nc,.int .i64 z.rs,.slice z.ca z.cl z.cc,.slice z.ba z.bl z.bc,.int .i64 z.gen,.int .i64 z.slot,.bool z.bad,.bool K],112)]from⟨h.box,trivial⟩)
 unfold refV at RO
 clear h hd
 obtain⟨q,hq⟩:∃q,openQ D=q:=⟨_,rfl⟩
 rw[hq]at OP OO RO
 obtain⟨o,k⟩:=q
 dsimp only at OP OO RO
 have OO:=qh OO
 clear hq
 obtain⟨p0,f0, -⟩:=F0.out.rules
 go_enter Tryz.func64,Tryz.ntmps64
 go_wp2_with fail
 with_reducible refine(OP.out w (Kept.refl _ _)).mono ?_
 rintro e w1 ⟨hp,k1⟩
 have K1:=qh k1
 have F1:=qh (F0.out.same k1)
 clear k1 p0 f0 F0 OP
 obtain⟨p0,f0, -⟩:=F1.out.rules
 cases o with
 |none=>
  obtain rfl:=hp
  have NK:=qh (OO.out.2 rfl)
  clear OO
  go_wp2_with fail
  have hl3:∀g,(dod d bs m g∨(D.s≠[]∧g=x))→g<w1.heap.size:=fun g hg=>by
   have h1:=LT.out;have h2:=K1.out.size
   rcases hg with q|q
   ·rcases q with q|q|q<;>omega
   ·omega
  have ha3:Apt a (fun j=>dod d bs m j∨(D.s≠[]∧j=x)):=fun y hy q=>by
   rcases q with q|q
   ·exact H.out.da y hy q
   ·exact(H.out.dx.resolve_left q.1) y hy q.2
  have RO1:=qh (RO.out (fun j=>dod d bs m j∨(D.s≠[]∧j=x)) w1 K1.out hl3 ha3)
  clear hl3 ha3
  with_reducible refine RO1.out.mono ?_
  rintro e w2 ⟨a4,c4,z4,rfl,hs4,hp4, -,k2⟩
  have HS4:=qh hs4
  have HP4:=qh hp4
  have K2:=qh (K1.out.trans k2)
  have F2:=qh (F1.out.same k2)
  clear hs4 hp4 k2 p0 f0 F1 RO
  unfold rzC
  go_upto_region 3 with fail
  obtain⟨g,hg⟩:∃g,w2.heap.size=g:=⟨_,rfl⟩
  rw[hg]
  refine cutWl (fun wn=>Fr wn [(g,#[.slice a4 D.s.length c4,.bool D.off,.int .i64 D.calls,.int .i64 D.after,.bool D.done,.int .i64 z4.ring,.int .i64 z4.ns,.slice z4.na z4.nl z4.nc,.int .i64 z4.rs,.slice z4.ca z4.cl z4.cc,.slice z4.ba z4.bl z4.bc,.int .i64 z4.gen,.int .i64 z4.slot,.bool z4.bad],107),(x,#[.pointer (some ⟨d,0,none⟩),.pointer sp,.slice a D.s.length c,.bool D.off,.int .i64 D.calls,.int .i64 D.after,.bool D.done,.int .i64 z.ring,.int .i64 z.ns,.slice z.na z.nl z.nc,.int .i64 z.rs,.slice z.ca z.cl z.cc,.slice z.ba z.bl z.bc,.int .i64 z.gen,.int .i64 z.slot,.bool z.bad,.bool K],112)]∧Same w2 wn) ⟨⟨Blk.new' _ _ _ hg.symm,F2.out.1.alloc _,trivial⟩,(Kept.refl _ _).alloc _⟩ ?_
  rintro w5 ⟨hf5,k5⟩
  have GX:=qh (show¬g=x from by have h1:=LT.out.2.2.2;have h2:=K2.out.size;omega)
  have F5:=qh hf5
  have K5:=qh (K2.out.trans k5)
  have HS5:=qh (HS4.out.same k5)
  clear hf5 k5 hg F2 K2 HS4
  obtain⟨p0,f0,p1,f1, -⟩:=F5.out.rules
  have z0:=F5.out.1.lt
  have z1:=F5.out.2.1.lt
  have gk:(((k:Nat):Int)==0)=false:=by have:=NK.out;simpa using this
  have gk2:(((k:Nat):Int) !=0)=true:=by have:=NK.out;simpa using this
  clear NK
  have QX:=qh (fun w' (k:Kept (fun j=>j=x) w5 w')=>(⟨cell_blk (F5.out.1.kept k GX.out),trivial,trivial,trivial⟩:(∀i,w'.cell? ⟨g,i,none⟩=(#[.slice a4 D.s.length c4,.bool D.off,.int .i64 D.calls,.int .i64 D.after,.bool D.done,.int .i64 z4.ring,.int .i64 z4.ns,.slice z4.na z4.nl z4.nc,.int .i64 z4.rs,.slice z4.ca z4.cl z4.cc,.slice z4.ba z4.bl z4.bc,.int .i64 z4.gen,.int .i64 z4.slot,.bool z4.bad]:Array Value)[i]?)∧True∧True∧True))
  go_wp2_with fail
  refine wp_region_T (S:=fun w'=>Kept (fun j=>j=x) w5 w') 15 (by kernel_rfl) (Kept.refl _ _).drew (fun hHeld hDn=>?_)
  refine wpT_z 0 24 QX hHeld hDn fun hDn=>?_
  refine wpT_z 1 25 QX hHeld hDn fun hDn=>?_
  refine wpT_z 2 26 QX hHeld hDn fun hDn=>?_
  refine wpT_z 3 27 QX hHeld hDn fun hDn=>?_
  refine wpT_z 4 28 QX hHeld hDn fun hDn=>?_
  refine wpT_z 5 29 QX hHeld hDn fun hDn=>?_
  refine wpT_z 6 30 QX hHeld hDn fun hDn=>?_
  refine wpT_z 7 31 QX hHeld hDn fun hDn=>?_
  refine wpT_z 8 32 QX hHeld hDn fun hDn=>?_
  refine wpT_one (i:=9) rfl (by kernel_rfl) hDn (fun K' hK=>?_)
  go_simp
  refine hK.out _ _ ((Kept.refl _ _).drew.setG _ _) (fun hHeld2 hDn2=>?_)
  clear hK K' hHeld hDn
  have hHeld:=hHeld2;have hDn:=hDn2
  clear hHeld2 hDn2
  refine wpT_z 10 33 QX hHeld hDn fun hDn=>?_
  refine wpT_z 11 34 QX hHeld hDn fun hDn=>?_
  refine wpT_one (i:=12) rfl (by kernel_rfl) hDn (fun K' hK=>?_)
  go_simp
  refine hK.out _ _ (by repeat(with_reducible first|exact Kept.refl _ _|refine Kept.setG ?_ _ _|refine Kept.drew ?_)) (fun hHeld2 hDn2=>?_)
  clear hK K' hHeld hDn
  have hHeld:=hHeld2;have hDn:=hDn2
  clear hHeld2 hDn2
  refine wpT_z 13 35 QX hHeld hDn fun hDn=>?_
  refine wpT_z 14 36 QX hHeld hDn fun hDn=>?_
  refine wpT_last rfl (by kernel_rfl) hDn (fun K hK=>?_)
  go_simp
  refine hK.out _ _ (fun hDn'=>?_)
  clear hK K hDn hHeld;have hDn:=hDn';clear hDn'
  refine wpT_done (by kernel_rfl) ?_ _
  have BX:=qh (show Blk w5 x #[.pointer (some ⟨d,0,none⟩),.pointer sp,.slice a D.s.length c,.bool D.off,.int .i64 D.calls,.int .i64 D.after,.bool D.done,.int .i64 z.ring,.int .i64 z.ns,.slice z.na z.nl z.nc,.int .i64 z.rs,.slice z.ca z.cl z.cc,.slice z.ba z.bl z.bc,.int .i64 z.gen,.int .i64 z.slot,.bool z.bad,.bool K] 112 from F5.out.2.1)
  clear QX hDn p0 f0 p1 f1 z0 z1
  go_upto_region 4 with fail
  refine cutWl (fun wn=>Blk wn x #[.pointer (some ⟨d,0,none⟩),.pointer (none),.slice a4 D.s.length c4,.bool D.off,.int .i64 D.calls,.int .i64 D.after,.bool D.done,.int .i64 z4.ring,.int .i64 z4.ns,.slice z4.na z4.nl z4.nc,.int .i64 z4.rs,.slice z4.ca z4.cl z4.cc,.slice z4.ba z4.bl z4.bc,.int .i64 z4.gen,.int .i64 z4.slot,.bool z4.bad,.bool false] 112∧Kept (fun j=>j=x) w5 wn) ⟨by first|with_reducible exact(Blk.setW1 BX.out).drew|with_reducible exact Blk.setW1 BX.out,by repeat(with_reducible first|exact Kept.refl _ _|refine Kept.setG ?_ _ _|refine Kept.drew ?_)⟩ ?_
  rintro w6 ⟨bx6,k6⟩
  have BX6:=qh bx6
  have K6:=qh k6
  clear bx6 k6
  go_wp2_with fail
  go_ret
  refine⟨rfl,⟨D,none,a4,c4,z4,false,?_⟩,?_⟩
  ·refine W7.put H.out.lo F5.out.2.1 (w7C_not d sp a D.s.length c D z K) K6.out BX6.out ⟨cap,HD.out.same K5.out⟩ H.out.len HS5.out (fun y hy q=>HP4.out y hy (.inl q)) ?_ H.out.xd (fun q=>by cases q)
   by_cases hn:D.s=[]
   ·exact .inl hn
   ·exact .inr (fun y hy q=>HP4.out y hy (.inr ⟨hn,q⟩))
  ·exact(K5.out.mono (fun _ _ q=>q.elim)).trans (K6.out.mono (fun j _ q=>by have:=H.out.lo;omega))
 |some S=>
  obtain⟨p,rfl,hst,hp2⟩:=hp
  have ST1:=qh hst
  have FS2:=qh (OO.out.1 S rfl)
  obtain rfl:k=0:=FS2.out.2.2
  have PL:=qh (show∀g,FS p d bs m g→g<w1.heap.size from hst.ltF)
  have HP2:=qh hp2
  clear OO hst hp2
  go_wp2_with fail
  have hne:D.s≠[]:=by have:=FS2.out.1.ne.1;rw[FS2.out.2.1]at this;exact this
  have hl3:∀g,(g=x∨FS p d bs m g)→g<w1.heap.size:=fun g hg=>by
   have h1:=LT.out;have h2:=K1.out.size
   rcases hg with q|q
   ·omega
   ·exact PL.out g q
  have ha3:Apt a (fun j=>j=x∨FS p d bs m j):=fun y hy q=>by
   rcases q with q|q|q
   ·exact(H.out.dx.resolve_left hne) y hy q
   ·have h1:=(secsAt_lt H.out.ds).resolve_left hne y hy
    have h2:=HP2.out
    omega
   ·exact H.out.da y hy q
  have RO1:=qh (RO.out (fun j=>j=x∨FS p d bs m j) w1 K1.out hl3 ha3)
  clear hl3 ha3
  with_reducible refine RO1.out.mono ?_
  rintro e w2 ⟨a4,c4,z4,rfl,hs4,hp4,hS4,k2⟩
  obtain⟨-,A,hA1,hA2,hz4,hr4⟩:=hS4 S rfl
  have HS4:=qh hs4
  have HP4:=qh hp4
  have HR4:=qh hr4
  have HZ:=qh (show A.a=a4∧A.c=c4∧z4=rzOf S A from⟨hA1,hA2,hz4⟩)
  have K12:=qh k2
  have K2:=qh (K1.out.trans k2)
  have F2:=qh (F1.out.same k2)
  clear hs4 hp4 k2 p0 f0 F1 RO hS4 hA1 hA2 hz4 hr4 hne
  unfold rzC
  go_upto_region 3 with fail
  obtain⟨g,hg⟩:∃g,w2.heap.size=g:=⟨_,rfl⟩
  rw[hg]
  refine cutWl (fun wn=>Fr wn [(g,#[.slice a4 D.s.length c4,.bool D.off,.int .i64 D.calls,.int .i64 D.after,.bool D.done,.int .i64 z4.ring,.int .i64 z4.ns,.slice z4.na z4.nl z4.nc,.int .i64 z4.rs,.slice z4.ca z4.cl z4.cc,.slice z4.ba z4.bl z4.bc,.int .i64 z4.gen,.int .i64 z4.slot,.bool z4.bad],107),(x,#[.pointer (some ⟨d,0,none⟩),.pointer sp,.slice a D.s.length c,.bool D.off,.int .i64 D.calls,.int .i64 D.after,.bool D.done,.int .i64 z.ring,.int .i64 z.ns,.slice z.na z.nl z.nc,.int .i64 z.rs,.slice z.ca z.cl z.cc,.slice z.ba z.bl z.bc,.int .i64 z.gen,.int .i64 z.slot,.bool z.bad,.bool K],112)]∧Same w2 wn) ⟨⟨Blk.new' _ _ _ hg.symm,F2.out.1.alloc _,trivial⟩,(Kept.refl _ _).alloc _⟩ ?_
  rintro w5 ⟨hf5,k5⟩
  have GX:=qh (show¬g=x from by have h1:=LT.out.2.2.2;have h2:=K2.out.size;omega)
  have F5:=qh hf5
  have K15:=qh (K12.out.trans k5)
  have K5:=qh (K2.out.trans k5)
  have HS5:=qh (HS4.out.same k5)
  have HR5:=qh (HR4.out.same k5)
  clear hf5 k5 hg F2 K2 HS4 HR4
  obtain⟨p0,f0,p1,f1, -⟩:=F5.out.rules
  have z0:=F5.out.1.lt
  have z1:=F5.out.2.1.lt
  have QX:=qh (fun w' (k:Kept (fun j=>j=x) w5 w')=>(⟨cell_blk (F5.out.1.kept k GX.out),trivial,trivial,trivial⟩:(∀i,w'.cell? ⟨g,i,none⟩=(#[.slice a4 D.s.length c4,.bool D.off,.int .i64 D.calls,.int .i64 D.after,.bool D.done,.int .i64 z4.ring,.int .i64 z4.ns,.slice z4.na z4.nl z4.nc,.int .i64 z4.rs,.slice z4.ca z4.cl z4.cc,.slice z4.ba z4.bl z4.bc,.int .i64 z4.gen,.int .i64 z4.slot,.bool z4.bad]:Array Value)[i]?)∧True∧True∧True))
  go_wp2_with fail
  refine wp_region_T (S:=fun w'=>Kept (fun j=>j=x) w5 w') 15 (by kernel_rfl) (Kept.refl _ _).drew (fun hHeld hDn=>?_)
  refine wpT_z 0 24 QX hHeld hDn fun hDn=>?_
  refine wpT_z 1 25 QX hHeld hDn fun hDn=>?_
  refine wpT_z 2 26 QX hHeld hDn fun hDn=>?_
  refine wpT_z 3 27 QX hHeld hDn fun hDn=>?_
  refine wpT_z 4 28 QX hHeld hDn fun hDn=>?_
  refine wpT_z 5 29 QX hHeld hDn fun hDn=>?_
  refine wpT_z 6 30 QX hHeld hDn fun hDn=>?_
  refine wpT_z 7 31 QX hHeld hDn fun hDn=>?_
  refine wpT_z 8 32 QX hHeld hDn fun hDn=>?_
  refine wpT_one (i:=9) rfl (by kernel_rfl) hDn (fun K' hK=>?_)
  go_simp
  refine hK.out _ _ ((Kept.refl _ _).drew.setG _ _) (fun hHeld2 hDn2=>?_)
  clear hK K' hHeld hDn
  have hHeld:=hHeld2;have hDn:=hDn2
  clear hHeld2 hDn2
  refine wpT_z 10 33 QX hHeld hDn fun hDn=>?_
  refine wpT_z 11 34 QX hHeld hDn fun hDn=>?_
  refine wpT_one (i:=12) rfl (by kernel_rfl) hDn (fun K' hK=>?_)
  go_simp
  refine hK.out _ _ (by repeat(with_reducible first|exact Kept.refl _ _|refine Kept.setG ?_ _ _|refine Kept.drew ?_)) (fun hHeld2 hDn2=>?_)
  clear hK K' hHeld hDn
  have hHeld:=hHeld2;have hDn:=hDn2
  clear hHeld2 hDn2
  refine wpT_z 13 35 QX hHeld hDn fun hDn=>?_
  refine wpT_z 14 36 QX hHeld hDn fun hDn=>?_
  refine wpT_last rfl (by kernel_rfl) hDn (fun K hK=>?_)
  go_simp
  refine hK.out _ _ (fun hDn'=>?_)
  clear hK K hDn hHeld;have hDn:=hDn';clear hDn'
  refine wpT_done (by kernel_rfl) ?_ _
  have BX:=qh (show Blk w5 x #[.pointer (some ⟨d,0,none⟩),.pointer sp,.slice a D.s.length c,.bool D.off,.int .i64 D.calls,.int .i64 D.after,.bool D.done,.int .i64 z.ring,.int .i64 z.ns,.slice z.na z.nl z.nc,.int .i64 z.rs,.slice z.ca z.cl z.cc,.slice z.ba z.bl z.bc,.int .i64 z.gen,.int .i64 z.slot,.bool z.bad,.bool K] 112 from F5.out.2.1)
  clear QX hDn p0 f0 p1 f1 z0 z1
  go_upto_region 4 with fail
  refine cutWl (fun wn=>Blk wn x #[.pointer (some ⟨d,0,none⟩),.pointer (some ⟨p,0,none⟩),.slice a4 D.s.length c4,.bool D.off,.int .i64 D.calls,.int .i64 D.after,.bool D.done,.int .i64 z4.ring,.int .i64 z4.ns,.slice z4.na z4.nl z4.nc,.int .i64 z4.rs,.slice z4.ca z4.cl z4.cc,.slice z4.ba z4.bl z4.bc,.int .i64 z4.gen,.int .i64 z4.slot,.bool z4.bad,.bool true] 112∧Kept (fun j=>j=x) w5 wn) ⟨by first|with_reducible exact(Blk.setW1 BX.out).drew|with_reducible exact Blk.setW1 BX.out,by repeat(with_reducible first|exact Kept.refl _ _|refine Kept.setG ?_ _ _|refine Kept.drew ?_)⟩ ?_
  rintro w6 ⟨bx6,k6⟩
  have BX6:=qh bx6
  have K6:=qh k6
  clear bx6 k6
  go_wp2_with fail
  go_ret
  have hpx:p≠x:=by have h1:=LT.out.2.2.2;have h2:=HP2.out;have h3:=K1.out.size;omega
  refine⟨rfl,⟨D,some ⟨p,0,none⟩,a4,c4,z4,true,?_⟩,?_⟩
  ·refine W7.put H.out.lo F5.out.2.1 (w7C_not d sp a D.s.length c D z K) K6.out BX6.out ⟨cap,HD.out.same K5.out⟩ H.out.len HS5.out (fun y hy q=>HP4.out y hy (.inr (.inr q))) (.inr (fun y hy q=>HP4.out y hy (.inl q))) H.out.xd (fun _=>?_)
   refine⟨S,p,A,FS2.out.2.1,rfl,by have h1:=HP2.out;have h2:=K1.out.size;have h3:=H.out.lo.1;have h4:=LT.out.2.2.2;omega,hpx,ST1.out.same K15.out,HR5.out,HZ.out.1,HZ.out.2.1,HZ.out.2.2,?_⟩
   have:=FS2.out.1
   rw[H.out.len]at this
   exact this
  ·exact(K5.out.mono (fun _ _ q=>q.elim)).trans (K6.out.mono (fun j _ q=>by have:=H.out.lo;omega))
end
section
open Go.RowKit Go.Sort Go.Shelf
structure A7 where
 k:Nat
 n:Int
 ba:Option Addr
 bl:Nat
 bc:Nat
 bs:List Nat
 k2:Nat
 n2:Int
 c:Nat
 u:Nat
 dn:Bool
 fa:Option Addr
 fl:Nat
 fc:Nat
 fs:List Nat
def A7.v(A:A7):Value:=.agg #[.int .u8 (A.k:Nat),.int .i64 A.n,.slice A.ba A.bl A.bc,.int .u8 (A.k2:Nat),.int .i64 A.n2,.int .u8 (A.c:Nat),.int .u8 (A.u:Nat),.bool A.dn,.slice A.fa A.fl A.fc]
structure A7.ok(A:A7)(w:World)(nb:Nat):Prop where
 kb:A.k<256
 nb_: -9223372036854775808≤A.n∧A.n≤9223372036854775807
 bl_:A.bl=A.bs.length
 bc_:A.bl≤A.bc
 bb:Bts A.bs
 at_:NatsAt w .u8 A.ba A.bs
 bn:A.ba=none→A.bc=0
 blo:A.bs=[]∨∀y,A.ba=some y→y.block<nb
 k2b:A.k2<256
 n2b: -9223372036854775808≤A.n2∧A.n2≤9223372036854775807
 cb:A.c<256
 ub:A.u<256
 fl_:A.fl=A.fs.length
 fc_:A.fl≤A.fc
 fb:Bts A.fs
 fat:NatsAt w .u8 A.fa A.fs
 flo:A.fs=[]∨∀y,A.fa=some y→y.block<nb
theorem powerD_lenN(D:Dsk)(f:List Nat):(powerD D f).s.length=D.s.length:=by
 have:=doD_len D 7 0 0 0 false f
 exact this
theorem w7_power{nb:Nat}{w:World}{x d bs m N:Nat}{D:Dsk}{sp a:Option Addr}{c:Nat}{z:RZ}{K:Bool}(h:W7b nb w x d bs m N D sp a c z K)(hnb:nb≤w.heap.size)(A:A7)(ha:A.ok w nb)(h9:A.k % 10=9):
 Calls Tryz.prog 28 #[.pointer (some ⟨x,0,none⟩),A.v] w (W7P nb w x d bs m N):=by
 obtain⟨cap,hd⟩:=h.disk
 have H:=qh h
 have HA:=qh ha
 have PW:=qh (fun w' (k:Same w w')=>sd_power (hd.same k) A.fa A.fl A.fc A.fs ha.fl_ ha.fc_ ha.fb (ha.fat.same k))
 have RP:=qh (fun w' hs hv=>rs_power a D.s.length c D rfl hd.ok (.slice A.fa A.fl A.fc) A.fs ha.fb w' hs hv)
 have LT:=qh (show d<w.heap.size∧bs<w.heap.size∧m<w.heap.size∧x<w.heap.size from⟨hd.box.lt,hd.safe.lt,hd.map.lt,h.box.lt⟩)
 have HNB:=qh hnb
 have LN:=qh (powerD_lenN D A.fs)
 obtain⟨D2,hD2⟩:∃D2,powerD D A.fs=D2:=⟨_,rfl⟩
 rw[hD2]at PW RP LN
 have BX:=qh (show Blk w x #[.pointer (some ⟨d,0,none⟩),.pointer sp,.slice a D.s.length c,.bool D.off,.int .i64 D.calls,.int .i64 D.after,.bool D.done,.int .i64 z.ring,.int .i64 z.ns,.slice z.na z.nl z.nc,.int .i64 z.rs,.slice z.ca z.cl z.cc,.slice z.ba z.bl z.bc,.int .i64 z.gen,.int .i64 z.slot,.bool z.bad,.bool K] 112 from h.box)
 have e10:(A.k:Int) % 10=9:=by omega
 clear h ha hd hD2 h9
 unfold A7.v
 obtain⟨k,n,ba,bl,bc,bbs,k2,n2,c2,u,dn,fa,fl,fc,fs⟩:=A
 dsimp only at PW RP e10 LN ⊢
 go_enter Tryz.func28,Tryz.ntmps28
 go_upto_region 1 with fail
 obtain⟨y,hy⟩:∃y,w.heap.size=y:=⟨_,rfl⟩
 rw[hy]
 refine cutWl (fun wn=>Fr wn [(y,#[.int .u8 (k:Nat),.int .i64 n,.slice ba bl bc,.int .u8 (k2:Nat),.int .i64 n2,.int .u8 (c2:Nat),.int .u8 (u:Nat),.bool dn,.slice fa fl fc],36),(x,#[.pointer (some ⟨d,0,none⟩),.pointer sp,.slice a D.s.length c,.bool D.off,.int .i64 D.calls,.int .i64 D.after,.bool D.done,.int .i64 z.ring,.int .i64 z.ns,.slice z.na z.nl z.nc,.int .i64 z.rs,.slice z.ca z.cl z.cc,.slice z.ba z.bl z.bc,.int .i64 z.gen,.int .i64 z.slot,.bool z.bad,.bool K],112)]∧Same w wn) ⟨⟨Blk.new' _ _ _ hy.symm,BX.out.alloc _,trivial⟩,(Kept.refl _ _).alloc _⟩ ?_
 rintro w1 ⟨hf1,k1⟩
 have F1:=qh hf1
 have K1:=qh k1
 have HY:=qh hy
 clear hf1 k1 hy BX
 obtain⟨p0,f0,p1,f1, -⟩:=F1.out.rules
 have QX:=qh (fun w' (k':Same w1 w')=>(⟨cell_blk (F1.out.1.kept k' (fun h=>h)),cell_blk (F1.out.2.1.kept k' (fun h=>h)),trivial,trivial⟩:(∀i,w'.cell? ⟨y,i,none⟩=(#[.int .u8 (k:Nat),.int .i64 n,.slice ba bl bc,.int .u8 (k2:Nat),.int .i64 n2,.int .u8 (c2:Nat),.int .u8 (u:Nat),.bool dn,.slice fa fl fc]:Array Value)[i]?)∧(∀i,w'.cell? ⟨x,i,none⟩=(#[.pointer (some ⟨d,0,none⟩),.pointer sp,.slice a D.s.length c,.bool D.off,.int .i64 D.calls,.int .i64 D.after,.bool D.done,.int .i64 z.ring,.int .i64 z.ns,.slice z.na z.nl z.nc,.int .i64 z.rs,.slice z.ca z.cl z.cc,.slice z.ba z.bl z.bc,.int .i64 z.gen,.int .i64 z.slot,.bool z.bad,.bool K]:Array Value)[i]?)∧True∧True))
 go_wp2_with fail
 refine wp_region_T (S:=fun w'=>Same w1 w') 7 (by kernel_rfl) (Kept.refl _ _).drew (fun hHeld hDn=>?_)
 refine wpT_z 0 15 QX hHeld hDn fun hDn=>?_
 refine wpT_z 1 16 QX hHeld hDn fun hDn=>?_
 refine wpT_z 2 17 QX hHeld hDn fun hDn=>?_
 refine wpT_z 3 18 QX hHeld hDn fun hDn=>?_
 refine wpT_z 4 19 QX hHeld hDn fun hDn=>?_
 refine wpT_z 5 20 QX hHeld hDn fun hDn=>?_
 refine wpT_z 6 21 QX hHeld hDn fun hDn=>?_
 refine wpT_last rfl (by kernel_rfl) hDn (fun K' hK=>?_)
 go_simp
 refine(PW.out _ (K1.out.trans (Kept.refl _ _).drew)).mono ?_
 rintro e w2 ⟨rfl,hd2,k2'⟩
 have K12:=qh (show Kept (dod d bs m) w1 w2 from((Kept.refl _ _).drew).trans k2')
 have HD2:=qh hd2
 refine hK.out _ _ (fun hDn'=>?_)
 clear hK K' hDn hHeld hDn' k2' hd2 PW QX p0 f0 p1 f1
 refine wpT_done (by kernel_rfl) ?_ _
 have LO:=qh (show∀j,dod d bs m j→j<w.heap.size∧nb≤j from fun j q=>by have h1:=LT.out;have h2:=H.out.lo;rcases q with q|q|q<;>omega)
 have F2:=qh (show Fr w2 [(y,#[.int .u8 (k:Nat),.int .i64 n,.slice ba bl bc,.int .u8 (k2:Nat),.int .i64 n2,.int .u8 (c2:Nat),.int .u8 (u:Nat),.bool dn,.slice fa fl fc],36),(x,#[.pointer (some ⟨d,0,none⟩),.pointer sp,.slice a D.s.length c,.bool D.off,.int .i64 D.calls,.int .i64 D.after,.bool D.done,.int .i64 z.ring,.int .i64 z.ns,.slice z.na z.nl z.nc,.int .i64 z.rs,.slice z.ca z.cl z.cc,.slice z.ba z.bl z.bc,.int .i64 z.gen,.int .i64 z.slot,.bool z.bad,.bool K],112)]from⟨F1.out.1.kept K12.out (fun q=>by have h1:=LO.out _ q;have h2:=HY.out;omega),F1.out.2.1.kept K12.out H.out.xd,trivial⟩)
 have DS2:=qh ((H.out.ds.same K1.out).kept K12.out (.inr (fun y hy=>H.out.da y hy)))
 have FV2:=qh (show FatesV w2 (.slice fa fl fc) fs from⟨fa,fl,fc,rfl,HA.out.fl_,HA.out.fc_,(HA.out.fat.same K1.out).kept' K12.out (HA.out.flo.imp_right (fun h y hy q=>by have h1:=h y hy;have h2:=LO.out _ q;omega))⟩)
 have RP1:=qh (fun w' (k':Same w2 w')=>RP.out w' (DS2.out.same k') (FV2.out.same k'))
 clear RP
 unfold refV at RP1
 obtain⟨p0,f0,p1,f1, -⟩:=F2.out.rules
 have QX:=qh (fun w' (k':Same w2 w')=>(⟨cell_blk (F2.out.1.kept k' (fun h=>h)),cell_blk (F2.out.2.1.kept k' (fun h=>h)),trivial,trivial⟩:(∀i,w'.cell? ⟨y,i,none⟩=(#[.int .u8 (k:Nat),.int .i64 n,.slice ba bl bc,.int .u8 (k2:Nat),.int .i64 n2,.int .u8 (c2:Nat),.int .u8 (u:Nat),.bool dn,.slice fa fl fc]:Array Value)[i]?)∧(∀i,w'.cell? ⟨x,i,none⟩=(#[.pointer (some ⟨d,0,none⟩),.pointer sp,.slice a D.s.length c,.bool D.off,.int .i64 D.calls,.int .i64 D.after,.bool D.done,.int .i64 z.ring,.int .i64 z.ns,.slice z.na z.nl z.nc,.int .i64 z.rs,.slice z.ca z.cl z.cc,.slice z.ba z.bl z.bc,.int .i64 z.gen,.int .i64 z.slot,.bool z.bad,.bool K]:Array Value)[i]?)∧True∧True))
 go_wp2_with fail
 refine wp_region_T (S:=fun w'=>Same w2 w') 13 (by kernel_rfl) (Kept.refl _ _).drew (fun hHeld hDn=>?_)
 refine wpT_z 0 23 QX hHeld hDn fun hDn=>?_
 refine wpT_z 1 24 QX hHeld hDn fun hDn=>?_
 refine wpT_z 2 25 QX hHeld hDn fun hDn=>?_
 refine wpT_z 3 26 QX hHeld hDn fun hDn=>?_
 refine wpT_z 4 27 QX hHeld hDn fun hDn=>?_
 refine wpT_z 5 28 QX hHeld hDn fun hDn=>?_
 refine wpT_z 6 29 QX hHeld hDn fun hDn=>?_
 refine wpT_z 7 30 QX hHeld hDn fun hDn=>?_
 refine wpT_z 8 31 QX hHeld hDn fun hDn=>?_
 refine wpT_one (i:=9) rfl (by kernel_rfl) hDn (fun K' hK=>?_)
 go_simp
 refine(RP1.out _ (Kept.refl _ _).drew).mono ?_
 rintro e w3 ⟨a4,c4,rfl,⟨hs4,hf4⟩,k3⟩
 have HS4:=qh hs4
 have HF4:=qh (show∀y,a4=some y→w2.heap.size≤y.block from hf4)
 have K3:=qh (show Same w2 w3 from((Kept.refl _ _).drew).trans k3)
 unfold refV
 refine hK.out _ _ K3.out (fun hHeld2 hDn2=>?_)
 clear hK K' hHeld hDn
 have hHeld:=hHeld2;have hDn:=hDn2
 clear hHeld2 hDn2
 clear k3 hs4 hf4 RP1 QX p0 f0 p1 f1
 have F3:=qh (F2.out.same K3.out)
 obtain⟨p0,f0,p1,f1, -⟩:=F3.out.rules
 have z0:=F3.out.1.lt
 have z1:=F3.out.2.1.lt
 refine wpT_zw 10 33 hHeld hDn fun hDn=>?_
 refine wpT_zw 11 34 hHeld hDn fun hDn=>?_
 refine wpT_zw 12 35 hHeld hDn fun hDn=>?_
 refine wpT_last rfl (by kernel_rfl) hDn (fun K hK=>?_)
 go_simp
 refine hK.out _ _ (fun hDn'=>?_)
 clear hK K hDn hHeld;have hDn:=hDn';clear hDn'
 refine wpT_done (by kernel_rfl) ?_ _
 have BX:=qh (show Blk w3 x #[.pointer (some ⟨d,0,none⟩),.pointer sp,.slice a D.s.length c,.bool D.off,.int .i64 D.calls,.int .i64 D.after,.bool D.done,.int .i64 z.ring,.int .i64 z.ns,.slice z.na z.nl z.nc,.int .i64 z.rs,.slice z.ca z.cl z.cc,.slice z.ba z.bl z.bc,.int .i64 z.gen,.int .i64 z.slot,.bool z.bad,.bool K] 112 from F3.out.2.1)
 clear hDn p0 f0 p1 f1 z0 z1
 go_upto_region 4 with fail
 refine cutWl (fun wn=>Blk wn x #[.pointer (some ⟨d,0,none⟩),.pointer sp,.slice a4 D2.s.length c4,.bool D2.off,.int .i64 D2.calls,.int .i64 D2.after,.bool D2.done,.int .i64 z.ring,.int .i64 z.ns,.slice z.na z.nl z.nc,.int .i64 z.rs,.slice z.ca z.cl z.cc,.slice z.ba z.bl z.bc,.int .i64 z.gen,.int .i64 z.slot,.bool z.bad,.bool K] 112∧Kept (fun j=>j=x) w3 wn) ⟨by first|with_reducible exact(Blk.setWD BX.out).drew|with_reducible exact Blk.setWD BX.out,by repeat(with_reducible first|exact Kept.refl _ _|refine Kept.setG ?_ _ _|refine Kept.drew ?_)⟩ ?_
 rintro w4 ⟨bx4,k4⟩
 have K4:=qh k4
 have W4:=qh (show W7b nb w4 x d bs m N D2 sp a4 c4 z K from by
  have hsz2:=K12.out.size;have hsz1:=K1.out.size
  refine⟨H.out.lo,bx4,⟨cap,(HD2.out.same K3.out).kept k4 (fun q=>H.out.xd (.inl q.symm)) (fun q=>H.out.xd (.inr (.inl q.symm))) (fun q=>H.out.xd (.inr (.inr q.symm)))⟩,LN.out.trans H.out.len,HS4.out.kept k4 (.inr (fun y hy q=>by have h1:=HF4.out y hy;have h2:=LT.out;omega)),fun y hy q=>by have h1:=HF4.out y hy;have h2:=LO.out _ q;omega,.inr (fun y hy q=>by have h1:=HF4.out y hy;have h2:=LT.out;omega),H.out.xd⟩)
 have KA:=qh (show Kept (fun j=>nb≤j) w w4 from((K1.out.mono (fun _ _ q=>q.elim)).trans (K12.out.mono (fun j _ q=>(LO.out j q).2))).trans ((K3.out.mono (fun _ _ q=>q.elim)).trans (k4.mono (fun j _ q=>by have:=H.out.lo;omega))))
 clear bx4 k4
 go_wp2_with fail
 with_reducible refine(w7_open W4.out).mono ?_
 rintro e w5 ⟨rfl,hw,k5⟩
 have HW:=qh hw
 have K5:=qh k5
 clear hw k5
 go_wp2_with fail
 go_ret
 exact⟨rfl,HW.out,KA.out.trans K5.out⟩
end
end Go.Proofs.YtmiglhlbhbfodaaGreatDoor
