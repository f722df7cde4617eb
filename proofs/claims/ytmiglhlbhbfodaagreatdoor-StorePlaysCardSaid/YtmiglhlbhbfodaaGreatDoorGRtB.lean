/- GRtB: Rt6, Rt7, Rt8, Rt9, Rt10, Rt11. -/
import Derived.Test.YtmiglhlbhbfodaaGreatDoorGRtA
import Derived.Test.YtmiglhlbhbfodaaGreatDoorGBs
set_option maxHeartbeats 3200000
set_option maxRecDepth 100000
namespace Go.Proofs.YtmiglhlbhbfodaaGreatDoor
section
open Go.RowKit Go.Sort Go.Shelf
theorem rt_free(S:Sto)(A:RA)(fp:Nat→Prop)(n:Int)(hw:Words S.nwords)(w:World)(h:RSp w S A fp):
 Calls Tryz.prog 67 #[rsV S A,.int .i64 n] w (RtP w (S.free n).1 (S.free n).2 fp):=by
 obtain⟨R,hR⟩:∃R,RtP w (S.free n).1 (S.free n).2 fp=R:=⟨_,rfl⟩
 rw[hR]
 have NO:=qh (fun(er:Nat) (he:S.hasE n=er) (h0:er≠0) W (k:Same w W)=>show R (.returned (.tuple #[rsV S A,.int .i64 (er:Nat)])) W from by
  rw[←hR]
  have e:S.free n=(S,er):=by unfold Sto.free;rw[he,if_pos h0]
  rw[e]
  exact⟨A,rfl,h.same k,k⟩)
 obtain⟨T,hT⟩:∃T,setN (S.nsize:Nat) S.nwords n false=T:=⟨_,rfl⟩
 have YES:=qh (fun(he:S.hasE n=0) (v:Option Addr) (c:Nat) W (k:Same w W) (hat:NatsAt W .u64 v T) (hn:v=none→c=0) (hp:Apt v fp)=>show R (.returned (.tuple #[.agg #[.slice A.a S.D.s.length A.c,.bool S.D.off,.int .i64 S.D.calls,.int .i64 S.D.after,.bool S.D.done,.int .i64 (S.r.ring:Nat),.int .i64 (S.nsize:Nat),.slice v T.length c,.int .i64 (S.r.size:Nat),.slice A.ca S.r.words.length A.cc,.slice A.ba S.r.body.length A.bc,.int .i64 (S.r.gen:Nat),.int .i64 (S.r.slot:Nat),.bool S.bad],.int .i64 0])) W from by
  rw[←hR]
  have e:S.free n=({S with nwords:=T},0):=by unfold Sto.free;rw[he,if_neg (by decide),hT]
  rw[e]
  have h2:=h.same k
  exact⟨{A with na:=v,nc:=c},rfl,⟨⟨h2.st.ds,hat,h2.st.cs,h2.st.bs,hn,h2.st.cnil,h2.st.bnil,h2.st.bcap,h2.st.bl⟩,h2.lt,h2.pa,hp,h2.pc,h2.pb⟩,k⟩)
 have HAS:=qh (fun w' (k:Same w w')=>rb_has (S.nsize:Nat) A.na A.nc S.nwords n w' hw (h.st.ns.same k))
 have SET:=qh (fun w' (k:Same w w')=>show Calls Tryz.prog 116 #[mapV (S.nsize:Nat) A.na S.nwords.length A.nc,.int .i64 n,.bool false] w' (MapAtF w' A.na (S.nsize:Nat) T)from hT▸rb_setF (S.nsize:Nat) A.na A.nc S.nwords n false w' hw h.st.nnil (h.st.ns.same k))
 have NB:=qh (show T.length=S.nwords.length∧(S.nwords=[]∨∀x,A.na=some x→x.block<w.heap.size)from⟨by rw[←hT];exact setN_len' _ _ _ _,by
  rcases h.st.ns with r|⟨b,off,r,hb,_⟩
  ·exact .inl r
  ·exact .inr (fun x hx=>by rw[r]at hx;cases hx;exact hb)⟩)
 have PN:=qh (show Apt A.na fp∧∀g,fp g→g<w.heap.size from⟨h.pn,h.lt⟩)
 have HE:=qh (show S.hasE n=if S.bad=true then 11 else if hasM (S.nsize:Nat) S.nwords n=true then 0 else 6 from rfl)
 obtain⟨bd,hbd⟩:∃bd,S.bad=bd:=⟨_,rfl⟩
 obtain⟨hm,hhm⟩:∃hm,hasM (S.nsize:Nat) S.nwords n=hm:=⟨_,rfl⟩
 obtain⟨E,hE⟩:∃E,S.hasE n=E:=⟨_,rfl⟩
 rw[hE]at NO YES HE
 unfold rsV rsC at NO ⊢
 unfold mapV at HAS SET
 rw[hhm]at HAS HE
 rw[hbd]at NO YES HE ⊢
 clear hR h hbd hhm hE hT hw
 go_enter Tryz.func67,Tryz.ntmps67
 go_upto_region 1 with fail
 obtain⟨y,hy⟩:∃y,w.heap.size=y:=⟨_,rfl⟩
 rw[hy]
 refine cutWl (fun wn=>Fr wn [(y,#[.slice A.a S.D.s.length A.c,.bool S.D.off,.int .i64 S.D.calls,.int .i64 S.D.after,.bool S.D.done,.int .i64 (S.r.ring:Nat),.int .i64 (S.nsize:Nat),.slice A.na S.nwords.length A.nc,.int .i64 (S.r.size:Nat),.slice A.ca S.r.words.length A.cc,.slice A.ba S.r.body.length A.bc,.int .i64 (S.r.gen:Nat),.int .i64 (S.r.slot:Nat),.bool bd],107),(y+1,#[.slice none 0 0,.bool false,.int .i64 0,.int .i64 0,.bool false,.int .i64 0,.int .i64 0,.slice none 0 0,.int .i64 0,.slice none 0 0,.slice none 0 0,.int .i64 0,.int .i64 0,.bool false],107)]∧Same w wn) ⟨⟨(Blk.new' _ _ _ hy.symm).alloc _,Blk.new' _ _ _ (by simp[hy]),trivial⟩,((Kept.refl _ _).alloc _).alloc _⟩ ?_
 rintro w4 ⟨hf4,k4⟩
 have F4:=qh hf4
 have K4:=qh k4
 have HY:=qh hy
 obtain⟨p0,f0,p1,f1, -⟩:=F4.out.rules
 have z0:=F4.out.1.lt
 have z1:=F4.out.2.1.lt
 clear hf4 k4 hy
 cases bd
 ·go_wp2_with fail
  with_reducible refine(HAS.out w4 K4.out).mono ?_
  rintro e w5 ⟨rfl,k5⟩
  have K5:=qh (K4.out.trans k5)
  have F5:=qh (F4.out.same k5)
  clear p0 f0 p1 f1 z0 z1 F4 K4 k5 HAS
  obtain⟨p0,f0,p1,f1, -⟩:=F5.out.rules
  have z0:=F5.out.1.lt
  have z1:=F5.out.2.1.lt
  cases hm
  ·have HE':=qh (show E=6 from HE.out)
   have B1:=qh (show Blk w5 (y+1) #[.slice none 0 0,.bool false,.int .i64 0,.int .i64 0,.bool false,.int .i64 0,.int .i64 0,.slice none 0 0,.int .i64 0,.slice none 0 0,.slice none 0 0,.int .i64 0,.int .i64 0,.bool false] 107 from F5.out.2.1)
   clear YES SET HE
   go_wp2_with fail
   (try simp only[Exit.inBlock,Exit.then])
   refine cutE (fun W=>Blk W (y+1) #[.slice A.a S.D.s.length A.c,.bool S.D.off,.int .i64 S.D.calls,.int .i64 S.D.after,.bool S.D.done,.int .i64 (S.r.ring:Nat),.int .i64 (S.nsize:Nat),.slice A.na S.nwords.length A.nc,.int .i64 (S.r.size:Nat),.slice A.ca S.r.words.length A.cc,.slice A.ba S.r.body.length A.bc,.int .i64 (S.r.gen:Nat),.int .i64 (S.r.slot:Nat),.bool false] 107∧Same w W) ⟨by with_reducible exact Blk.set14 B1.out,by with_reducible exact Kept.set14 K5.out (by have:=HY.out;omega)⟩ ?_
   rintro wz ⟨bz,kz⟩
   refine bodyPost_ret (results_ctmp (b:=.int .i64 6) rfl _ _ _ _ _ _ rfl bz rfl rfl rfl (by kernel_rfl)) rfl ?_
   exact NO.out 6 HE'.out (by decide) wz kz
  ·have HE':=qh (show E=0 from HE.out)
   clear NO HE
   go_wp2_with fail
   with_reducible refine(SET.out w5 K5.out).mono ?_
   rintro e w6 ⟨v,c,rfl,hat,hn,hva,k6⟩
   have HV:=qh (show Apt v fp from by
    rcases hva with r|r
    ·rw[r];exact PN.out.1
    ·exact far_apt r (fun g hg=>Nat.lt_of_lt_of_le (PN.out.2 g hg) K5.out.size))
   have HN:=qh hn
   have HVA:=qh (show T=[]∨∀x,v=some x→x.block≠y∧x.block≠y+1 from by
    rcases hva with r|r
    ·rcases NB.out.2 with z|z
     ·exact .inl (List.eq_nil_of_length_eq_zero (by rw[NB.out.1,z];rfl))
     ·exact .inr (fun x hx=>by have:=z x (by rw[←r];exact hx);have:=HY.out;omega)
    ·exact .inr (fun x hx=>by have h1:w5.heap.size≤x.block:=r x hx;omega))
   have HAT:=qh hat
   have K6:=qh (K5.out.trans k6)
   have F6:=qh (F5.out.same k6)
   clear p0 f0 p1 f1 z0 z1 F5 K5 k6 SET hat hn hva
   obtain⟨p0,f0,p1,f1, -⟩:=F6.out.rules
   have z0:=F6.out.1.lt
   have z1:=F6.out.2.1.lt
   have B0:=qh (show Blk w6 y #[.slice A.a S.D.s.length A.c,.bool S.D.off,.int .i64 S.D.calls,.int .i64 S.D.after,.bool S.D.done,.int .i64 (S.r.ring:Nat),.int .i64 (S.nsize:Nat),.slice A.na S.nwords.length A.nc,.int .i64 (S.r.size:Nat),.slice A.ca S.r.words.length A.cc,.slice A.ba S.r.body.length A.bc,.int .i64 (S.r.gen:Nat),.int .i64 (S.r.slot:Nat),.bool false] 107 from F6.out.1)
   have B1:=qh (show Blk w6 (y+1) #[.slice none 0 0,.bool false,.int .i64 0,.int .i64 0,.bool false,.int .i64 0,.int .i64 0,.slice none 0 0,.int .i64 0,.slice none 0 0,.slice none 0 0,.int .i64 0,.int .i64 0,.bool false] 107 from F6.out.2.1)
   unfold mapV
   go_upto_region 6 with fail
   refine cutWl (fun wn=>Fr wn [(y,#[.slice A.a S.D.s.length A.c,.bool S.D.off,.int .i64 S.D.calls,.int .i64 S.D.after,.bool S.D.done,.int .i64 (S.r.ring:Nat),.int .i64 (S.nsize:Nat),.slice v T.length c,.int .i64 (S.r.size:Nat),.slice A.ca S.r.words.length A.cc,.slice A.ba S.r.body.length A.bc,.int .i64 (S.r.gen:Nat),.int .i64 (S.r.slot:Nat),.bool false],107),(y+1,#[.slice none 0 0,.bool false,.int .i64 0,.int .i64 0,.bool false,.int .i64 0,.int .i64 0,.slice none 0 0,.int .i64 0,.slice none 0 0,.slice none 0 0,.int .i64 0,.int .i64 0,.bool false],107)]∧Same w wn∧NatsAt wn .u64 v T) ⟨⟨by with_reducible exact Blk.set67 B0.out,?_,trivial⟩,?_,?_⟩ ?_
   ·refine B1.out.kept (fp:=fun j=>j=y) ?_ (by omega)
    (repeat(with_reducible first|exact Kept.refl _ _|refine Kept.setG ?_ _ _))
   ·repeat(with_reducible first|exact K6.out|refine Kept.setNew ?_ (by have:=HY.out;dsimp only;omega) _)
   ·refine HAT.out.kept' (fp:=fun j=>j=y) ?_ (HVA.out.imp_right (fun h x hx=>(h x hx).1))
    (repeat(with_reducible first|exact Kept.refl _ _|refine Kept.setG ?_ _ _))
   rintro w7 ⟨hf7,k7,hn7⟩
   have F7:=qh hf7
   have K7:=qh k7
   have HAT7:=qh hn7
   clear p0 f0 p1 f1 z0 z1 F6 B0 B1 hf7 k7 hn7 K6 HAT
   obtain⟨p0,f0,p1,f1, -⟩:=F7.out.rules
   have z0:=F7.out.1.lt
   have z1:=F7.out.2.1.lt
   have B1:=qh (show Blk w7 (y+1) #[.slice none 0 0,.bool false,.int .i64 0,.int .i64 0,.bool false,.int .i64 0,.int .i64 0,.slice none 0 0,.int .i64 0,.slice none 0 0,.slice none 0 0,.int .i64 0,.int .i64 0,.bool false] 107 from F7.out.2.1)
   go_wp2_with fail
   (try simp only[Exit.inBlock,Exit.then])
   refine cutE (fun W=>Blk W (y+1) #[.slice A.a S.D.s.length A.c,.bool S.D.off,.int .i64 S.D.calls,.int .i64 S.D.after,.bool S.D.done,.int .i64 (S.r.ring:Nat),.int .i64 (S.nsize:Nat),.slice v T.length c,.int .i64 (S.r.size:Nat),.slice A.ca S.r.words.length A.cc,.slice A.ba S.r.body.length A.bc,.int .i64 (S.r.gen:Nat),.int .i64 (S.r.slot:Nat),.bool false] 107∧Same w W∧NatsAt W .u64 v T) ⟨by with_reducible exact Blk.set14 B1.out,by with_reducible exact Kept.set14 K7.out (by have:=HY.out;omega),?_⟩ ?_
   ·refine HAT7.out.kept' (fp:=fun j=>j=y+1) ?_ (HVA.out.imp_right (fun h x hx=>(h x hx).2))
    (repeat(with_reducible first|exact Kept.refl _ _|refine Kept.setG ?_ _ _))
   rintro wz ⟨bz,kz,nz⟩
   refine bodyPost_ret (results_ctmp (b:=.int .i64 0) rfl _ _ _ _ _ _ rfl bz rfl rfl rfl (by kernel_rfl)) rfl ?_
   exact YES.out HE'.out v c wz kz nz HN.out HV.out
 ·have HE':=qh (show E=11 from HE.out)
  have B1:=qh (show Blk w4 (y+1) #[.slice none 0 0,.bool false,.int .i64 0,.int .i64 0,.bool false,.int .i64 0,.int .i64 0,.slice none 0 0,.int .i64 0,.slice none 0 0,.slice none 0 0,.int .i64 0,.int .i64 0,.bool false] 107 from F4.out.2.1)
  clear YES SET HAS HE
  go_wp2_with fail
  (try simp only[Exit.inBlock,Exit.then])
  refine cutE (fun W=>Blk W (y+1) #[.slice A.a S.D.s.length A.c,.bool S.D.off,.int .i64 S.D.calls,.int .i64 S.D.after,.bool S.D.done,.int .i64 (S.r.ring:Nat),.int .i64 (S.nsize:Nat),.slice A.na S.nwords.length A.nc,.int .i64 (S.r.size:Nat),.slice A.ca S.r.words.length A.cc,.slice A.ba S.r.body.length A.bc,.int .i64 (S.r.gen:Nat),.int .i64 (S.r.slot:Nat),.bool true] 107∧Same w W) ⟨by with_reducible exact Blk.set14 B1.out,by with_reducible exact Kept.set14 K4.out (by have:=HY.out;omega)⟩ ?_
  rintro wz ⟨bz,kz⟩
  refine bodyPost_ret (results_ctmp (b:=.int .i64 11) rfl _ _ _ _ _ _ rfl bz rfl rfl rfl (by kernel_rfl)) rfl ?_
  exact NO.out 11 HE'.out (by decide) wz kz
end
section
open Go.RowKit Go.Sort Go.Shelf
theorem results_cell_tmp2{fn:Func}{p u v:Tmp}{ty:TypeId}(h:fn.results=#[.cell p ty,.tmp u,.tmp v])(tmps:Array Value)(P:Program)(w:World):
 (results fn tmps).run P w=
  ((asAddr (tmps.getD p undef)).run P w).andThen fun a w₁=>((loadVar ty a).run P w₁).andThen fun x w₂=>.ok (.tuple #[x,tmps.getD u undef,tmps.getD v undef]) w₂:=by
 simp only[results,h]
 simp[Sem.run_bind,Result.andThen]
theorem results_ctmp2{P:Program}{fn:Func}{p u v:Tmp}{ty:TypeId}(h:fn.results=#[.cell p ty,.tmp u,.tmp v])(tmps:Array Value)(w:World)(g:Nat)(t:TypeId)(cs:Array Value)(d:TypeDesc)(b c:Value)
 (hp:tmps.getD p undef=.pointer (some ⟨g,0,none⟩)) (hg:Blk w g cs t) (hb:tmps.getD u undef=b) (hc:tmps.getD v undef=c)
 (hu:P.underlying ty=some d) (hd:(match d with| .struct _| .array _ _=>true|_=>false)=true) (hi:(P.info? ty).map (·.size)=some cs.size):
 (results fn tmps).run P w=.ok (.tuple #[.agg cs,b,c]) w:=by
 rw[results_cell_tmp2 h,hp,hb,hc]
 simp only[asAddr,Sem.run_pure,Result.andThen_ok,run_loadVar_row w g t ty cs (0,0) d hg hu hd hi]
end
section
open Go.RowKit Go.Sort Go.Shelf
theorem natsAt_not{w:World}{g:Nat}{cs:Array Value}{t:TypeId}{v:Option Addr}{bo:List Nat}(hb:Blk w g cs t)(hn:NatsAt w .u8 v bo)(hc:∀(i:Nat) (x:Int),cs[i]? ≠some (Value.int .u8 x)):bo=[]∨∀x,v=some x→x.block≠g:=by
 rcases hn with h|⟨b,off,rfl,hlt,hx⟩
 ·exact .inl h
 ·cases bo with
  |nil=>exact .inl rfl
  |cons z l=>
   refine .inr (fun x hx' e=>?_)
   cases hx'
   have h1:=hx 0 z rfl
   have h2:=cell_blk hb (off+0)
   dsimp only at e
   rw[←e,h1]at h2
   exact hc _ _ h2.symm
def RtQ(w:World)(S:Sto)(b:List Nat)(k:Nat)(fp:Nat→Prop)(e:Ending)(w':World):Prop:=∃A a c,e=.returned (.tuple #[rsV S A,.slice a b.length c,.int .i64 (k:Nat)])∧RSp w' S A fp∧NatsAt w' .u8 a b∧Same w w'
theorem rt_read(S:Sto)(A:RA)(fp:Nat→Prop)(n:Int)(hok:S.D.OK)(hw:Words S.nwords)(hring:S.r.ring≤4096)(w:World)(h:RSp w S A fp):
 Calls Tryz.prog 62 #[rsV S A,.int .i64 n] w (RtQ w (S.rd n).1 (S.rd n).2.1 (S.rd n).2.2 fp):=by
 obtain⟨R,hR⟩:∃R,RtQ w (S.rd n).1 (S.rd n).2.1 (S.rd n).2.2 fp=R:=⟨_,rfl⟩
 rw[hR]
 have NO:=qh (fun(er:Nat) (he:S.hasE n=er) (h0:er≠0) W (k:Same w W)=>show R (.returned (.tuple #[rsV S A,.slice none 0 0,.int .i64 (er:Nat)])) W from by
  rw[←hR]
  have e:S.rd n=(S,[],er):=by unfold Sto.rd;rw[he,if_pos h0]
  rw[e]
  exact⟨A,none,0,rfl,h.same k,.inl rfl,k⟩)
 obtain⟨T,hT⟩:∃T,S.rq n=T:=⟨_,rfl⟩
 have YES:=qh (fun(he:S.hasE n=0) (b2:Bool) (hb2:(S.bad||decide (T.2=8))=b2) (v:Option Addr) (c:Nat) W (k:Same w W) (hat:NatsAt W .u8 v T.1)=>show R (.returned (.tuple #[.agg #[.slice A.a S.D.s.length A.c,.bool S.D.off,.int .i64 S.D.calls,.int .i64 S.D.after,.bool S.D.done,.int .i64 (S.r.ring:Nat),.int .i64 (S.nsize:Nat),.slice A.na S.nwords.length A.nc,.int .i64 (S.r.size:Nat),.slice A.ca S.r.words.length A.cc,.slice A.ba S.r.body.length A.bc,.int .i64 (S.r.gen:Nat),.int .i64 (S.r.slot:Nat),.bool b2],.slice v T.1.length c,.int .i64 (T.2:Nat)])) W from by
  rw[←hR]
  have e:S.rd n=({S with bad:=b2},T.1,T.2):=by unfold Sto.rd;rw[he,if_neg (by decide),hT,hb2]
  rw[e]
  have h2:=h.same k
  exact⟨A,v,c,rfl,⟨⟨h2.st.ds,h2.st.ns,h2.st.cs,h2.st.bs,h2.st.nnil,h2.st.cnil,h2.st.bnil,h2.st.bcap,h2.st.bl⟩,h2.lt,h2.pa,h2.pn,h2.pc,h2.pb⟩,hat,k⟩)
 have HAS:=qh (fun w' (k:Same w w')=>rb_has (S.nsize:Nat) A.na A.nc S.nwords n w' hw (h.st.ns.same k))
 have AR:=qh (fun w'=>rt_area S A hring w')
 have RD:=qh (fun w' (k:Same w w')=>show Calls Tryz.prog 104 #[refV A.a S.D.s.length A.c S.D,areaV ((8+S.r.ring:Nat):Int) (S.nsize:Nat),.int .i64 n] w' fun e w''=>Told w' w'' e T from hT▸rb_read A.a A.c S.D hok ((8+S.r.ring:Nat):Int) (S.nsize:Nat) n w' (h.st.ds.same k))
 have HE:=qh (show S.hasE n=if S.bad=true then 11 else if hasM (S.nsize:Nat) S.nwords n=true then 0 else 6 from rfl)
 obtain⟨AV,hAV⟩:∃AV,areaV ((8+S.r.ring:Nat):Int) (S.nsize:Nat)=AV:=⟨_,rfl⟩
 rw[hAV]at AR RD
 obtain⟨bd,hbd⟩:∃bd,S.bad=bd:=⟨_,rfl⟩
 obtain⟨hm,hhm⟩:∃hm,hasM (S.nsize:Nat) S.nwords n=hm:=⟨_,rfl⟩
 obtain⟨E,hE⟩:∃E,S.hasE n=E:=⟨_,rfl⟩
 rw[hE]at NO YES HE
 unfold rsV rsC at NO AR ⊢
 unfold mapV at HAS
 unfold refV at RD
 rw[hhm]at HAS HE
 rw[hbd]at NO YES HE AR ⊢
 obtain⟨bo,er⟩:=T
 dsimp only at YES
 clear hR h hbd hhm hE hT hw hok hring hAV
 go_enter Tryz.func62,Tryz.ntmps62
 go_upto_region 1 with fail
 obtain⟨y,hy⟩:∃y,w.heap.size=y:=⟨_,rfl⟩
 rw[hy]
 refine cutWl (fun wn=>Fr wn [(y,#[.slice A.a S.D.s.length A.c,.bool S.D.off,.int .i64 S.D.calls,.int .i64 S.D.after,.bool S.D.done,.int .i64 (S.r.ring:Nat),.int .i64 (S.nsize:Nat),.slice A.na S.nwords.length A.nc,.int .i64 (S.r.size:Nat),.slice A.ca S.r.words.length A.cc,.slice A.ba S.r.body.length A.bc,.int .i64 (S.r.gen:Nat),.int .i64 (S.r.slot:Nat),.bool bd],107),(y+1,#[.slice none 0 0,.bool false,.int .i64 0,.int .i64 0,.bool false,.int .i64 0,.int .i64 0,.slice none 0 0,.int .i64 0,.slice none 0 0,.slice none 0 0,.int .i64 0,.int .i64 0,.bool false],107)]∧Same w wn) ⟨⟨(Blk.new' _ _ _ hy.symm).alloc _,Blk.new' _ _ _ (by simp[hy]),trivial⟩,((Kept.refl _ _).alloc _).alloc _⟩ ?_
 rintro w4 ⟨hf4,k4⟩
 have F4:=qh hf4
 have K4:=qh k4
 have HY:=qh hy
 obtain⟨p0,f0,p1,f1, -⟩:=F4.out.rules
 have z0:=F4.out.1.lt
 have z1:=F4.out.2.1.lt
 clear hf4 k4 hy
 cases bd
 ·go_wp2_with fail
  with_reducible refine(HAS.out w4 K4.out).mono ?_
  rintro e w5 ⟨rfl,k5⟩
  have K5:=qh (K4.out.trans k5)
  have F5:=qh (F4.out.same k5)
  clear p0 f0 p1 f1 z0 z1 F4 K4 k5 HAS
  obtain⟨p0,f0,p1,f1, -⟩:=F5.out.rules
  have z0:=F5.out.1.lt
  have z1:=F5.out.2.1.lt
  cases hm
  ·have HE':=qh (show E=6 from HE.out)
   have B1:=qh (show Blk w5 (y+1) #[.slice none 0 0,.bool false,.int .i64 0,.int .i64 0,.bool false,.int .i64 0,.int .i64 0,.slice none 0 0,.int .i64 0,.slice none 0 0,.slice none 0 0,.int .i64 0,.int .i64 0,.bool false] 107 from F5.out.2.1)
   clear YES AR RD HE
   go_wp2_with fail
   (try simp only[Exit.inBlock,Exit.then])
   refine cutE (fun W=>Blk W (y+1) #[.slice A.a S.D.s.length A.c,.bool S.D.off,.int .i64 S.D.calls,.int .i64 S.D.after,.bool S.D.done,.int .i64 (S.r.ring:Nat),.int .i64 (S.nsize:Nat),.slice A.na S.nwords.length A.nc,.int .i64 (S.r.size:Nat),.slice A.ca S.r.words.length A.cc,.slice A.ba S.r.body.length A.bc,.int .i64 (S.r.gen:Nat),.int .i64 (S.r.slot:Nat),.bool false] 107∧Same w W) ⟨by with_reducible exact Blk.set14 B1.out,by with_reducible exact Kept.set14 K5.out (by have:=HY.out;omega)⟩ ?_
   rintro wz ⟨bz,kz⟩
   refine bodyPost_ret (results_ctmp2 (b:=.slice none 0 0) (c:=.int .i64 6) rfl _ _ _ _ _ _ rfl bz rfl rfl rfl rfl (by kernel_rfl)) rfl ?_
   exact NO.out 6 HE'.out (by decide) wz kz
  ·have HE':=qh (show E=0 from HE.out)
   have QX:=qh (fun w' (k:Same w5 w')=>cell_blk (F5.out.1.kept k (fun h=>h)))
   clear NO HE
   go_wp2_with fail
   refine wp_region_T (S:=fun w'=>Same w5 w') 10 (by kernel_rfl) (Kept.refl _ _).drew (fun hHeld hDn=>?_)
   refine wpT_z 0 21 QX hHeld hDn fun hDn=>?_
   refine wpT_z 1 22 QX hHeld hDn fun hDn=>?_
   refine wpT_z 2 23 QX hHeld hDn fun hDn=>?_
   refine wpT_zw 4 25 hHeld hDn fun hDn=>?_
   refine wpT_one (i:=3) rfl (by kernel_rfl) hDn (fun K' hK=>?_)
   go_simp
   refine(AR.out _).mono ?_
   rintro e w6 ⟨rfl,k6⟩
   have K6:=qh (show Same w5 w6 from((Kept.refl _ _).drew).trans k6)
   refine hK.out _ _ K6.out (fun hHeld2 hDn2=>?_)
   clear hK K' hHeld hDn
   have hHeld:=hHeld2;have hDn:=hDn2
   clear hHeld2 hDn2
   clear k6 AR
   refine wpT_one (i:=5) rfl (by kernel_rfl) hDn (fun K' hK=>?_)
   go_simp
   refine(RD.out _ (K5.out.trans K6.out)).mono ?_
   rintro e w7 ⟨v,c,rfl,hat, -,k7⟩
   have HAT:=qh hat
   have K7:=qh (K6.out.trans k7)
   refine hK.out _ _ K7.out (fun hHeld2 hDn2=>?_)
   clear hK K' hHeld hDn
   have hHeld:=hHeld2;have hDn:=hDn2
   clear hHeld2 hDn2
   clear k7 hat RD K6
   refine wpT_zw 6 20 hHeld hDn fun hDn=>?_
   refine wpT_zw 7 27 hHeld hDn fun hDn=>?_
   refine wpT_zw 8 28 hHeld hDn fun hDn=>?_
   refine wpT_zw 9 7 hHeld hDn fun hDn=>?_
   refine wpT_last rfl (by kernel_rfl) hDn (fun K hK=>?_)
   go_simp
   refine hK.out _ _ (fun hDn'=>?_)
   clear hK K hDn hHeld;have hDn:=hDn';clear hDn'
   refine wpT_done (by kernel_rfl) ?_ _
   have K8:=qh (K5.out.trans K7.out)
   have F8:=qh (F5.out.same K7.out)
   have B0:=qh (show Blk w7 y #[.slice A.a S.D.s.length A.c,.bool S.D.off,.int .i64 S.D.calls,.int .i64 S.D.after,.bool S.D.done,.int .i64 (S.r.ring:Nat),.int .i64 (S.nsize:Nat),.slice A.na S.nwords.length A.nc,.int .i64 (S.r.size:Nat),.slice A.ca S.r.words.length A.cc,.slice A.ba S.r.body.length A.bc,.int .i64 (S.r.gen:Nat),.int .i64 (S.r.slot:Nat),.bool false] 107 from F8.out.1)
   have B1:=qh (show Blk w7 (y+1) #[.slice none 0 0,.bool false,.int .i64 0,.int .i64 0,.bool false,.int .i64 0,.int .i64 0,.slice none 0 0,.int .i64 0,.slice none 0 0,.slice none 0 0,.int .i64 0,.int .i64 0,.bool false] 107 from F8.out.2.1)
   have N0:=qh (natsAt_not B0.out HAT.out (fun i x q=>by have:=Array.mem_of_getElem? q;simp at this))
   have N1:=qh (natsAt_not B1.out HAT.out (fun i x q=>by have:=Array.mem_of_getElem? q;simp at this))
   obtain⟨b2,hb2⟩:∃b2,decide (er=8)=b2:=⟨_,rfl⟩
   have HB2:=qh (show(false||decide (er=8))=b2 from by rw[hb2];rfl)
   have g8:(((er:Nat):Int)==8)=b2:=by
    rw[←hb2]
    by_cases q:er=8
    ·subst q;rfl
    ·have q2:¬((er:Nat):Int)=8:=by omega
     simp[q,q2]
   clear p0 f0 p1 f1 z0 z1 QX F5 K5 K7 hDn hb2
   obtain⟨p0,f0,p1,f1, -⟩:=F8.out.rules
   have z0:=F8.out.1.lt
   have z1:=F8.out.2.1.lt
   go_upto_region 7 with fail
   refine cutWl (fun wn=>Fr wn [(y,#[.slice A.a S.D.s.length A.c,.bool S.D.off,.int .i64 S.D.calls,.int .i64 S.D.after,.bool S.D.done,.int .i64 (S.r.ring:Nat),.int .i64 (S.nsize:Nat),.slice A.na S.nwords.length A.nc,.int .i64 (S.r.size:Nat),.slice A.ca S.r.words.length A.cc,.slice A.ba S.r.body.length A.bc,.int .i64 (S.r.gen:Nat),.int .i64 (S.r.slot:Nat),.bool b2],107),(y+1,#[.slice none 0 0,.bool false,.int .i64 0,.int .i64 0,.bool false,.int .i64 0,.int .i64 0,.slice none 0 0,.int .i64 0,.slice none 0 0,.slice none 0 0,.int .i64 0,.int .i64 0,.bool false],107)]∧Same w wn∧NatsAt wn .u8 v bo) ⟨⟨B0.out.set 13 (.bool b2),?_,trivial⟩,?_,?_⟩ ?_
   ·refine B1.out.kept (fp:=fun j=>j=y) ?_ (by omega)
    (repeat(with_reducible first|exact Kept.refl _ _|refine Kept.setG ?_ _ _))
   ·repeat(with_reducible first|exact K8.out|refine Kept.setNew ?_ (by have:=HY.out;dsimp only;omega) _)
   ·refine HAT.out.kept' (fp:=fun j=>j=y) ?_ N0.out
    (repeat(with_reducible first|exact Kept.refl _ _|refine Kept.setG ?_ _ _))
   rintro w9 ⟨hf9,k9,hn9⟩
   have F9:=qh hf9
   have K9:=qh k9
   have HAT9:=qh hn9
   clear p0 f0 p1 f1 z0 z1 F8 B0 B1 hf9 k9 hn9 K8 HAT
   obtain⟨p0,f0,p1,f1, -⟩:=F9.out.rules
   have z0:=F9.out.1.lt
   have z1:=F9.out.2.1.lt
   have B1:=qh (show Blk w9 (y+1) #[.slice none 0 0,.bool false,.int .i64 0,.int .i64 0,.bool false,.int .i64 0,.int .i64 0,.slice none 0 0,.int .i64 0,.slice none 0 0,.slice none 0 0,.int .i64 0,.int .i64 0,.bool false] 107 from F9.out.2.1)
   go_wp2_with fail
   (try simp only[Exit.inBlock,Exit.then])
   refine cutE (fun W=>Blk W (y+1) #[.slice A.a S.D.s.length A.c,.bool S.D.off,.int .i64 S.D.calls,.int .i64 S.D.after,.bool S.D.done,.int .i64 (S.r.ring:Nat),.int .i64 (S.nsize:Nat),.slice A.na S.nwords.length A.nc,.int .i64 (S.r.size:Nat),.slice A.ca S.r.words.length A.cc,.slice A.ba S.r.body.length A.bc,.int .i64 (S.r.gen:Nat),.int .i64 (S.r.slot:Nat),.bool b2] 107∧Same w W∧NatsAt W .u8 v bo) ⟨by with_reducible exact Blk.set14 B1.out,by with_reducible exact Kept.set14 K9.out (by have:=HY.out;omega),?_⟩ ?_
   ·refine HAT9.out.kept' (fp:=fun j=>j=y+1) ?_ N1.out
    (repeat(with_reducible first|exact Kept.refl _ _|refine Kept.setG ?_ _ _))
   rintro wz ⟨bz,kz,nz⟩
   refine bodyPost_ret (results_ctmp2 (b:=.slice v bo.length c) (c:=.int .i64 ((er:Nat):Int)) rfl _ _ _ _ _ _ rfl bz rfl rfl rfl rfl (by kernel_rfl)) rfl ?_
   exact YES.out HE'.out b2 HB2.out v c wz kz nz
 ·have HE':=qh (show E=11 from HE.out)
  have B1:=qh (show Blk w4 (y+1) #[.slice none 0 0,.bool false,.int .i64 0,.int .i64 0,.bool false,.int .i64 0,.int .i64 0,.slice none 0 0,.int .i64 0,.slice none 0 0,.slice none 0 0,.int .i64 0,.int .i64 0,.bool false] 107 from F4.out.2.1)
  clear YES AR RD HAS HE
  go_wp2_with fail
  (try simp only[Exit.inBlock,Exit.then])
  refine cutE (fun W=>Blk W (y+1) #[.slice A.a S.D.s.length A.c,.bool S.D.off,.int .i64 S.D.calls,.int .i64 S.D.after,.bool S.D.done,.int .i64 (S.r.ring:Nat),.int .i64 (S.nsize:Nat),.slice A.na S.nwords.length A.nc,.int .i64 (S.r.size:Nat),.slice A.ca S.r.words.length A.cc,.slice A.ba S.r.body.length A.bc,.int .i64 (S.r.gen:Nat),.int .i64 (S.r.slot:Nat),.bool true] 107∧Same w W) ⟨by with_reducible exact Blk.set14 B1.out,by with_reducible exact Kept.set14 K4.out (by have:=HY.out;omega)⟩ ?_
  rintro wz ⟨bz,kz⟩
  refine bodyPost_ret (results_ctmp2 (b:=.slice none 0 0) (c:=.int .i64 11) rfl _ _ _ _ _ _ rfl bz rfl rfl rfl rfl (by kernel_rfl)) rfl ?_
  exact NO.out 11 HE'.out (by decide) wz kz
end
section
open Go.RowKit Go.Sort Go.Shelf
theorem rt_Room(S:Sto)(A:RA)(fp:Nat→Prop)(hf:S.Fit)(hle:rankN (S.nsize:Nat) S.both (S.nsize:Nat)≤S.nsize)(hs:S.nsize≤1048576)(w:World)(h:RSp w S A fp):
 Calls Tryz.prog 60 #[rsV S A] w fun e w'=>e=.returned (.int .i64 (S.roomS:Nat))∧Same w w':=by
 have EI:=qh (fun w' (k:Same w w')=>show Calls Tryz.prog 102 #[mapV (S.nsize:Nat) A.na S.nwords.length A.nc,mapV (S.r.size:Nat) A.ca S.r.words.length A.cc] w' (MapAt w' (S.nsize:Nat) S.both)from by
  have q:=rb_either (S.nsize:Nat) (S.r.size:Nat) A.na A.ca A.nc A.cc S.nwords S.r.words w' hf.nw hf.rw_ (h.st.ns.same k) (h.st.cs.same k)
  rw[hf.mixs.1,hf.mixs.2]at q
  exact q)
 have RK:=qh (fun v c w' hat=>rb_rank (S.nsize:Nat) v c S.both (S.nsize:Nat) w' hf.bothW hat)
 obtain⟨k,hk⟩:∃k,rankN (S.nsize:Nat) S.both (S.nsize:Nat)=k:=⟨_,rfl⟩
 have HR:=qh (show S.roomS=S.nsize - k from by unfold Sto.roomS;rw[hk])
 rw[hk]at RK hle
 have HL:=qh hle
 have HS:=qh hs
 generalize S.both=bt at EI RK
 unfold rsV rsC
 unfold mapV at EI RK
 clear hf hk hle hs h
 go_enter Tryz.func60,Tryz.ntmps60
 go_upto_region 1 with fail
 obtain⟨y,hy⟩:∃y,w.heap.size=y:=⟨_,rfl⟩
 rw[hy]
 refine cutWl (fun wn=>Fr wn [(y,#[.slice A.a S.D.s.length A.c,.bool S.D.off,.int .i64 S.D.calls,.int .i64 S.D.after,.bool S.D.done,.int .i64 (S.r.ring:Nat),.int .i64 (S.nsize:Nat),.slice A.na S.nwords.length A.nc,.int .i64 (S.r.size:Nat),.slice A.ca S.r.words.length A.cc,.slice A.ba S.r.body.length A.bc,.int .i64 (S.r.gen:Nat),.int .i64 (S.r.slot:Nat),.bool S.bad],107)]∧Same w wn) ⟨⟨Blk.new' _ _ _ hy.symm,trivial⟩,(Kept.refl _ _).alloc _⟩ ?_
 rintro w5 ⟨hf5,k5⟩
 have F5:=qh hf5
 have K5:=qh k5
 clear hf5 k5 hy
 have QX:=qh (fun w' (k:Same w5 w')=>cell_blk (F5.out.1.kept k (fun h=>h)))
 have hle:=HL.out;have hs:=HS.out
 have gw:IntKind.i64.wrap ((S.nsize:Int) - (k:Int))=((S.nsize - k:Nat):Int):=by rw[IntKind.wrap_i64];omega
 go_wp2_with fail
 refine wp_region_T (S:=fun w'=>Same w5 w') 13 (by kernel_rfl) (Kept.refl _ _).drew (fun hHeld hDn=>?_)
 refine wpT_z 0 3 QX hHeld hDn fun hDn=>?_
 refine wpT_z 1 4 QX hHeld hDn fun hDn=>?_
 refine wpT_z 2 5 QX hHeld hDn fun hDn=>?_
 refine wpT_z 3 6 QX hHeld hDn fun hDn=>?_
 refine wpT_z 4 7 QX hHeld hDn fun hDn=>?_
 refine wpT_z 5 8 QX hHeld hDn fun hDn=>?_
 refine wpT_z 6 9 QX hHeld hDn fun hDn=>?_
 refine wpT_z 8 11 QX hHeld hDn fun hDn=>?_
 refine wpT_z 9 12 QX hHeld hDn fun hDn=>?_
 refine wpT_z 10 13 QX hHeld hDn fun hDn=>?_
 refine wpT_one (i:=7) rfl (by kernel_rfl) hDn (fun K' hK=>?_)
 go_simp
 refine(EI.out _ (K5.out.trans (Kept.refl _ _).drew)).mono ?_
 rintro e w6 ⟨v,c,rfl,hat, -,k6⟩
 have K6:=qh (show Same w5 w6 from((Kept.refl _ _).drew).trans k6)
 have R6:=qh (RK.out v c w6 hat)
 unfold mapV
 refine hK.out _ _ K6.out (fun hHeld2 hDn2=>?_)
 clear hK K' hHeld hDn
 have hHeld:=hHeld2;have hDn:=hDn2
 clear hHeld2 hDn2
 clear k6 hat EI RK
 refine wpT_one (i:=11) rfl (by kernel_rfl) hDn (fun K' hK=>?_)
 go_simp
 refine R6.out.mono ?_
 rintro e w7 ⟨rfl,k7⟩
 have K7:=qh (K6.out.trans k7)
 refine hK.out _ _ K7.out (fun hHeld2 hDn2=>?_)
 clear hK K' hHeld hDn
 have hHeld:=hHeld2;have hDn:=hDn2
 clear hHeld2 hDn2
 clear k7 R6 K6
 refine wpT_zw 12 15 hHeld hDn fun hDn=>?_
 refine wpT_last rfl (by kernel_rfl) hDn (fun K hK=>?_)
 go_simp
 refine hK.out _ _ (fun hDn'=>?_)
 clear hK K hDn hHeld;have hDn:=hDn';clear hDn'
 refine wpT_done (by kernel_rfl) ?_ _
 clear hDn QX
 go_wp2_with fail
 go_ret
 exact⟨by rw[HR.out];rfl,K5.out.trans K7.out⟩
end
section
open Go.RowKit Go.Sort Go.Shelf
theorem writeD_five(D:Dsk)(n:Int)(b:List Nat):(writeD D n b).2≠5:=by
 unfold writeD errD callD
 intro h
 repeat' (split at h)
 all_goals(first|(simp at h)|omega)
theorem wrs_five:∀(cs:List (List Nat)) (D:Dsk) (F:Nat),(wrs D F cs).2≠5
 |[],D,F=>by simp[wrs]
 |c::cs,D,F=>by
  unfold wrs
  split
  ·exact wrs_five cs _ _
  ·exact writeD_five _ _ _
theorem writeB_lenN(D:Dsk)(f k n:Int)(b:List Nat):(writeB D f k n b).1.s.length=D.s.length:=by
 unfold writeB
 split
 ·split
  ·exact wrs_len _ _ _
  ·rfl
 ·rfl
theorem writeB_five{D:Dsk}{f k n:Int}{body:List Nat}(h:(writeB D f k n body).2=5):(writeB D f k n body).1=D:=by
 unfold writeB at h ⊢
 split
 ·rename_i h0
  rw[if_pos h0]at h
  split
  ·rename_i h1
   rw[if_pos h1]at h
   exact absurd h (wrs_five _ _ _)
  ·rfl
 ·rfl
theorem rt_wr(S:Sto)(A:RA)(fp:Nat→Prop)(n:Int)(hok:S.D.OK)(hw:Words S.nwords)(hw2:Words S.r.words)(hring:S.r.ring≤4096)(ba:Option Addr)(bl bc:Nat)(body:List Nat)(hbl:bl=body.length)(hbb:Bts body)(hc:bl≤bc)(w:World)(h:RSp w S A fp)(hat:NatsAt w .u8 ba body):
 Calls Tryz.prog 66 #[rsV S A,.int .i64 n,.slice ba bl bc] w (RtP w (S.wr n body).1 (S.wr n body).2 fp):=by
 obtain⟨R,hR⟩:∃R,RtP w (S.wr n body).1 (S.wr n body).2 fp=R:=⟨_,rfl⟩
 rw[hR]
 have NO:=qh (fun(er:Nat) (he:S.wr n body=(S,er)) W (k:Same w W)=>show R (.returned (.tuple #[rsV S A,.int .i64 (er:Nat)])) W from by
  rw[←hR,he]
  exact⟨A,rfl,h.same k,k⟩)
 obtain⟨T,hT⟩:∃T,S.wq n body=T:=⟨_,rfl⟩
 have YES:=qh (fun(he:S.hasE n=0) (hr:hasM (S.r.size:Nat) S.r.words n=false) (h5:T.2≠5) (b2:Bool) (hb2:(S.bad||decide (T.2≠0))=b2) (v:Option Addr) (c:Nat) W (k:Same w W) (hs:SecsAt W v T.1.s) (hp:Apt v fp)=>show R (.returned (.tuple #[.agg #[.slice v T.1.s.length c,.bool T.1.off,.int .i64 T.1.calls,.int .i64 T.1.after,.bool T.1.done,.int .i64 (S.r.ring:Nat),.int .i64 (S.nsize:Nat),.slice A.na S.nwords.length A.nc,.int .i64 (S.r.size:Nat),.slice A.ca S.r.words.length A.cc,.slice A.ba S.r.body.length A.bc,.int .i64 (S.r.gen:Nat),.int .i64 (S.r.slot:Nat),.bool b2],.int .i64 (T.2:Nat)])) W from by
  rw[←hR]
  have e:S.wr n body=(S.didS T.1 T.2,T.2):=by unfold Sto.wr;rw[he,hr,hT,if_neg (by decide),if_neg (by decide),if_neg h5];rfl
  rw[e,←hb2]
  have h2:=h.same k
  exact⟨{A with a:=v,c:=c},rfl,⟨⟨hs,h2.st.ns,h2.st.cs,h2.st.bs,h2.st.nnil,h2.st.cnil,h2.st.bnil,h2.st.bcap,h2.st.bl⟩,h2.lt,hp,h2.pn,h2.pc,h2.pb⟩,k⟩)
 have HN:=qh (show∀er,(S.hasE n≠0→er=S.hasE n→S.wr n body=(S,er))∧(S.hasE n=0→hasM (S.r.size:Nat) S.r.words n=true→S.wr n body=(S,11))∧(S.hasE n=0→hasM (S.r.size:Nat) S.r.words n=false→T.2=5→S.wr n body=(S,5))from by
  refine fun er=>⟨fun h1 h2=>by subst h2;unfold Sto.wr;rw[if_pos h1],fun h1 h2=>by unfold Sto.wr;rw[h1,h2,if_neg (by decide),if_pos rfl],fun h1 h2 h3=>?_⟩
  have h4:T.1=S.D:=by rw[←hT];exact writeB_five (by rw[←h3,←hT];rfl)
  unfold Sto.wr;rw[h1,h2,hT,if_neg (by decide),if_neg (by decide),if_pos h3,h4])
 have HAS:=qh (fun w' (k:Same w w')=>rb_has (S.nsize:Nat) A.na A.nc S.nwords n w' hw (h.st.ns.same k))
 have HA2:=qh (fun w' (k:Same w w')=>rb_has (S.r.size:Nat) A.ca A.cc S.r.words n w' hw2 (h.st.cs.same k))
 have AR:=qh (fun w'=>rt_area S A hring w')
 have RD:=qh (fun w' (k:Same w w')=>show Calls Tryz.prog 114 #[refV A.a S.D.s.length A.c S.D,areaV ((8+S.r.ring:Nat):Int) (S.nsize:Nat),.int .i64 n,.slice ba bl bc] w' fun e w''=>RefT w' w'' A.a e T.1 T.2 from hT▸rb_write A.a A.c S.D hok ((8+S.r.ring:Nat):Int) (S.nsize:Nat) n ba bl bc body hbl hbb hc w' (h.st.ds.same k) (hat.same k))
 have DI:=qh (fun a7 c7 w'=>rt_did S A a7 c7 T.1 T.2 w')
 have HE:=qh (show S.hasE n=if S.bad=true then 11 else if hasM (S.nsize:Nat) S.nwords n=true then 0 else 6 from rfl)
 have PA:=qh (show Apt A.a fp∧(∀g,fp g→g<w.heap.size)∧(S.D.s=[]∨∀x,A.a=some x→x.block<w.heap.size)∧T.1.s.length=S.D.s.length from⟨h.pa,h.lt,secsAt_lt h.st.ds,by rw[←hT];exact writeB_lenN _ _ _ _ _⟩)
 obtain⟨AV,hAV⟩:∃AV,areaV ((8+S.r.ring:Nat):Int) (S.nsize:Nat)=AV:=⟨_,rfl⟩
 rw[hAV]at AR RD
 obtain⟨bd,hbd⟩:∃bd,S.bad=bd:=⟨_,rfl⟩
 obtain⟨hm,hhm⟩:∃hm,hasM (S.nsize:Nat) S.nwords n=hm:=⟨_,rfl⟩
 obtain⟨hm2,hhm2⟩:∃hm2,hasM (S.r.size:Nat) S.r.words n=hm2:=⟨_,rfl⟩
 obtain⟨E,hE⟩:∃E,S.hasE n=E:=⟨_,rfl⟩
 obtain⟨WR,hWR⟩:∃WR,S.wr n body=WR:=⟨_,rfl⟩
 rw[hE]at YES HE HN
 rw[hWR]at NO HN
 unfold Sto.didS at DI
 unfold rsV rsC at NO AR DI ⊢
 unfold mapV at HAS HA2
 unfold refV at RD DI
 dsimp only at DI
 rw[hhm]at HAS HE
 rw[hhm2]at HA2 YES HN
 rw[hbd]at NO YES HE AR DI ⊢
 obtain⟨b2,hb2⟩:∃b2,(bd||decide (T.2≠0))=b2:=⟨_,rfl⟩
 rw[hb2]at DI
 have HB2:=qh hb2
 obtain⟨D2,er⟩:=T
 dsimp only at YES HN PA RD DI HB2
 clear hb2 hR h hbd hhm hhm2 hE hT hw hw2 hok hring hAV hbl hbb hc hat hWR
 go_enter Tryz.func66,Tryz.ntmps66
 go_upto_region 1 with fail
 obtain⟨y,hy⟩:∃y,w.heap.size=y:=⟨_,rfl⟩
 rw[hy]
 refine cutWl (fun wn=>Fr wn [(y,#[.slice A.a S.D.s.length A.c,.bool S.D.off,.int .i64 S.D.calls,.int .i64 S.D.after,.bool S.D.done,.int .i64 (S.r.ring:Nat),.int .i64 (S.nsize:Nat),.slice A.na S.nwords.length A.nc,.int .i64 (S.r.size:Nat),.slice A.ca S.r.words.length A.cc,.slice A.ba S.r.body.length A.bc,.int .i64 (S.r.gen:Nat),.int .i64 (S.r.slot:Nat),.bool bd],107),(y+1,#[.slice none 0 0,.bool false,.int .i64 0,.int .i64 0,.bool false,.int .i64 0,.int .i64 0,.slice none 0 0,.int .i64 0,.slice none 0 0,.slice none 0 0,.int .i64 0,.int .i64 0,.bool false],107)]∧Same w wn) ⟨⟨(Blk.new' _ _ _ hy.symm).alloc _,Blk.new' _ _ _ (by simp[hy]),trivial⟩,((Kept.refl _ _).alloc _).alloc _⟩ ?_
 rintro w4 ⟨hf4,k4⟩
 have F4:=qh hf4
 have K4:=qh k4
 have HY:=qh hy
 obtain⟨p0,f0,p1,f1, -⟩:=F4.out.rules
 have z0:=F4.out.1.lt
 have z1:=F4.out.2.1.lt
 clear hf4 k4 hy
 cases bd
 ·go_wp2_with fail
  with_reducible refine(HAS.out w4 K4.out).mono ?_
  rintro e w5a ⟨rfl,k5⟩
  have K5:=qh (K4.out.trans k5)
  have F5:=qh (F4.out.same k5)
  clear p0 f0 p1 f1 z0 z1 F4 K4 k5 HAS
  obtain⟨p0,f0,p1,f1, -⟩:=F5.out.rules
  have z0:=F5.out.1.lt
  have z1:=F5.out.2.1.lt
  cases hm
  ·have HE':=qh (show E=6 from HE.out)
   have B1:=qh (show Blk w5a (y+1) #[.slice none 0 0,.bool false,.int .i64 0,.int .i64 0,.bool false,.int .i64 0,.int .i64 0,.slice none 0 0,.int .i64 0,.slice none 0 0,.slice none 0 0,.int .i64 0,.int .i64 0,.bool false] 107 from F5.out.2.1)
   clear YES AR RD HE HA2
   go_wp2_with fail
   (try simp only[Exit.inBlock,Exit.then])
   refine cutE (fun W=>Blk W (y+1) #[.slice A.a S.D.s.length A.c,.bool S.D.off,.int .i64 S.D.calls,.int .i64 S.D.after,.bool S.D.done,.int .i64 (S.r.ring:Nat),.int .i64 (S.nsize:Nat),.slice A.na S.nwords.length A.nc,.int .i64 (S.r.size:Nat),.slice A.ca S.r.words.length A.cc,.slice A.ba S.r.body.length A.bc,.int .i64 (S.r.gen:Nat),.int .i64 (S.r.slot:Nat),.bool false] 107∧Same w W) ⟨by with_reducible exact Blk.set14 B1.out,by with_reducible exact Kept.set14 K5.out (by have:=HY.out;omega)⟩ ?_
   rintro wz ⟨bz,kz⟩
   refine bodyPost_ret (results_ctmp (b:=.int .i64 6) rfl _ _ _ _ _ _ rfl bz rfl rfl rfl (by kernel_rfl)) rfl ?_
   exact NO.out 6 ((HN.out 6).1 (by rw[HE'.out];decide) HE'.out.symm) wz kz
  ·have HE':=qh (show E=0 from HE.out)
   clear HE
   have F4:=F5;have K4:=K5
   clear F5 K5
   go_wp2_with fail
   with_reducible refine(HA2.out w5a K4.out).mono ?_
   rintro e w5 ⟨rfl,k5⟩
   have K5:=qh (K4.out.trans k5)
   have F5:=qh (F4.out.same k5)
   clear p0 f0 p1 f1 z0 z1 F4 K4 k5 HA2
   obtain⟨p0,f0,p1,f1, -⟩:=F5.out.rules
   have z0:=F5.out.1.lt
   have z1:=F5.out.2.1.lt
   cases hm2
   ·have QX:=qh (fun w' (k:Same w5 w')=>cell_blk (F5.out.1.kept k (fun h=>h)))
    go_upto_region 7 with fail
    go_cut [8,9]from 27 (fun s8 s9 W=>∃(g:Nat) (a7:Option Addr) (c7:Nat),s8=.pointer (some ⟨g,0,none⟩)∧s9=.int .i64 (er:Nat)∧y+2≤g∧Fr W [(y,#[.slice A.a S.D.s.length A.c,.bool S.D.off,.int .i64 S.D.calls,.int .i64 S.D.after,.bool S.D.done,.int .i64 (S.r.ring:Nat),.int .i64 (S.nsize:Nat),.slice A.na S.nwords.length A.nc,.int .i64 (S.r.size:Nat),.slice A.ca S.r.words.length A.cc,.slice A.ba S.r.body.length A.bc,.int .i64 (S.r.gen:Nat),.int .i64 (S.r.slot:Nat),.bool false],107),(y+1,#[.slice none 0 0,.bool false,.int .i64 0,.int .i64 0,.bool false,.int .i64 0,.int .i64 0,.slice none 0 0,.int .i64 0,.slice none 0 0,.slice none 0 0,.int .i64 0,.int .i64 0,.bool false],107),(g,#[.slice a7 D2.s.length c7,.bool D2.off,.int .i64 D2.calls,.int .i64 D2.after,.bool D2.done],104)]∧Same w W∧SecsAt W a7 D2.s∧(a7=A.a∨∀x,a7=some x→w5.heap.size≤x.block))
    case first=>
     refine wp_region_T (S:=fun w'=>Same w5 w') 11 (by kernel_rfl) (Kept.refl _ _).drew (fun hHeld hDn=>?_)
     refine wpT_z 0 28 QX hHeld hDn fun hDn=>?_
     refine wpT_z 1 29 QX hHeld hDn fun hDn=>?_
     refine wpT_z 2 30 QX hHeld hDn fun hDn=>?_
     refine wpT_zw 4 32 hHeld hDn fun hDn=>?_
     refine wpT_zw 5 33 hHeld hDn fun hDn=>?_
     refine wpT_two (i:=3) (j:=10) rfl rfl (by kernel_rfl) hDn (fun K' hK=>?_) (fun K' hK=>?_)
     ·go_simp
      refine(AR.out _).mono ?_
      rintro e w6 ⟨rfl,k6⟩
      have K6:=qh (show Same w5 w6 from((Kept.refl _ _).drew).trans k6)
      refine hK.out _ _ K6.out (fun hHeld2 hDn2=>?_)
      clear hK K' hHeld hDn
      have hHeld:=hHeld2;have hDn:=hDn2
      clear hHeld2 hDn2
      have k6':=k6
      clear k6
      refine wpT_two (i:=6) (j:=10) rfl rfl (by kernel_rfl) hDn (fun K' hK=>?_) (fun K' hK=>?_)
      ·go_simp
       refine(RD.out _ (K5.out.trans K6.out)).mono ?_
       rintro e w7 ⟨a7,c7,rfl,⟨hs7,hf7⟩,k7⟩
       have HS7:=qh hs7
       have K7:=qh (show Same w5 w7 from(K6.out).trans k7)
       have HA7:=qh (show a7=A.a∨∀x,a7=some x→w5.heap.size≤x.block from hf7.imp_right (fun h x hx=>Nat.le_trans K6.out.size (h x hx)))
       have HF7:=qh hf7
       clear hs7 hf7
       unfold refV
       refine hK.out _ _ K7.out (fun hHeld2 hDn2=>?_)
       clear hK K' hHeld hDn
       have hHeld:=hHeld2;have hDn:=hDn2
       clear hHeld2 hDn2
       have k7':=k7
       clear k7
       refine wpT_zw 7 27 hHeld hDn fun hDn=>?_
       refine wpT_zw 8 35 hHeld hDn fun hDn=>?_
       refine wpT_zw 9 36 hHeld hDn fun hDn=>?_
       refine wpT_one (i:=10) rfl (by kernel_rfl) hDn (fun K' hK=>?_)
       go_simp
       refine hK.out _ _ (K7.out.alloc _) (fun hHeld2 hDn2=>?_)
       clear hK K' hHeld hDn
       have hHeld:=hHeld2;have hDn:=hDn2
       clear hHeld2 hDn2
       refine cutT (fun wb=>Blk wb w7.heap.size #[.slice none 0 0,.bool false,.int .i64 0,.int .i64 0,.bool false] 104∧Same w7 wb) ⟨Blk.new _ _ _,(Kept.refl _ _).alloc _⟩ ?_
       rintro wb ⟨xb,kb⟩
       clear hHeld
       have K8:=qh (K7.out.trans kb)
       have hHeld:=K8.out
       have HS8:=qh (HS7.out.same kb)
       have GY:=qh (show y+2≤w7.heap.size from by have h1:=K7.out.size;have h2:=F5.out.2.1.lt;omega)
       have BG:=qh xb
       obtain⟨pg,fg, -⟩:=(show Fr _ [(w7.heap.size,#[.slice none 0 0,.bool false,.int .i64 0,.int .i64 0,.bool false],104)]from⟨BG.out,trivial⟩).rules
       have zg:=BG.out.lt
       refine wpT_last rfl (by kernel_rfl) hDn (fun K hK=>?_)
       go_simp
       refine hK.out _ _ (fun hDn'=>?_)
       clear hK K hDn hHeld;have hDn:=hDn';clear hDn'
       refine wpT_ze 12 9 hDn fun hDn=>?_
       refine wpT_done (by kernel_rfl) ?_ _
       have HX7:=qh (show D2.s=[]∨∀x,a7=some x→x.block≠w7.heap.size from((secsAt_lt HS7.out).imp_right (fun h x hx=>by have:=h x hx;omega)))
       have F8:=qh (F5.out.same K8.out)
       have KK8:=qh (K5.out.trans K8.out)
       clear hDn QX p0 f0 p1 f1 z0 z1 pg fg zg
       go_wp2_with fail
       go_meet
       case rel=>
        refine⟨w7.heap.size,a7,c7,rfl,rfl,GY.out,⟨?_,?_,?_,trivial⟩,?_,?_,HA7.out⟩
        ·refine F8.out.1.kept (fp:=fun j=>j=w7.heap.size) ?_ (by have:=GY.out;omega)
         (repeat(with_reducible first|exact Kept.refl _ _|refine Kept.setG ?_ _ _))
        ·refine F8.out.2.1.kept (fp:=fun j=>j=w7.heap.size) ?_ (by have:=GY.out;omega)
         (repeat(with_reducible first|exact Kept.refl _ _|refine Kept.setG ?_ _ _))
        ·with_reducible exact Blk.set5 BG.out
        ·repeat(with_reducible first|exact KK8.out|refine Kept.setNew ?_ (by have:=GY.out;have:=HY.out;dsimp only;omega) _)
        ·refine HS8.out.kept (fp:=fun j=>j=w7.heap.size) ?_ HX7.out
         (repeat(with_reducible first|exact Kept.refl _ _|refine Kept.setG ?_ _ _))
      ·go_simp
       refine hK.out _ _ (K6.out.alloc _) (fun hHeld2 hDn2=>?_)
       clear hK K' hHeld hDn
       have hHeld:=hHeld2;have hDn:=hDn2
       clear hHeld2 hDn2
       refine cutT (fun wb=>Blk wb w6.heap.size #[.slice none 0 0,.bool false,.int .i64 0,.int .i64 0,.bool false] 104∧Same w6 wb) ⟨Blk.new _ _ _,(Kept.refl _ _).alloc _⟩ ?_
       rintro wb ⟨xb,kb⟩
       clear hHeld
       have KB:=qh (K6.out.trans kb)
       have hHeld:=KB.out
       have GY:=qh (show y+2≤w6.heap.size from by have h1:=K6.out.size;have h2:=F5.out.2.1.lt;omega)
       refine wpT_one (i:=6) rfl (by kernel_rfl) hDn (fun K' hK=>?_)
       go_simp
       refine(RD.out _ (K5.out.trans KB.out)).mono ?_
       rintro e w7 ⟨a7,c7,rfl,⟨hs7,hf7⟩,k7⟩
       have HS7:=qh hs7
       have K7:=qh (show Same w5 w7 from(KB.out).trans k7)
       have HA7:=qh (show a7=A.a∨∀x,a7=some x→w5.heap.size≤x.block from hf7.imp_right (fun h x hx=>Nat.le_trans KB.out.size (h x hx)))
       have HF7:=qh hf7
       clear hs7 hf7
       unfold refV
       refine hK.out _ _ K7.out (fun hHeld2 hDn2=>?_)
       clear hK K' hHeld hDn
       have hHeld:=hHeld2;have hDn:=hDn2
       clear hHeld2 hDn2
       have k7':=k7
       clear k7
       have K8:=K7
       have HS8:=HS7
       have BG:=qh (xb.kept k7' (fun q=>q))
       refine wpT_zw 7 27 hHeld hDn fun hDn=>?_
       refine wpT_zw 8 35 hHeld hDn fun hDn=>?_
       refine wpT_zw 9 36 hHeld hDn fun hDn=>?_
       obtain⟨pg,fg, -⟩:=(show Fr _ [(w6.heap.size,#[.slice none 0 0,.bool false,.int .i64 0,.int .i64 0,.bool false],104)]from⟨BG.out,trivial⟩).rules
       have zg:=BG.out.lt
       refine wpT_last rfl (by kernel_rfl) hDn (fun K hK=>?_)
       go_simp
       refine hK.out _ _ (fun hDn'=>?_)
       clear hK K hDn hHeld;have hDn:=hDn';clear hDn'
       refine wpT_ze 12 9 hDn fun hDn=>?_
       refine wpT_done (by kernel_rfl) ?_ _
       have HX7:=qh (show D2.s=[]∨∀x,a7=some x→x.block≠w6.heap.size from((HF7.out.elim (fun r=>PA.out.2.2.1.elim (fun z=>.inl (List.eq_nil_of_length_eq_zero (by rw[PA.out.2.2.2,z];rfl))) (fun z=>.inr (fun x hx=>by have h1:=z x (by rw[←r];exact hx);have h2:=HY.out;have h3:=GY.out;omega))) (fun r=>.inr (fun x hx=>by have h1:=r x hx;have h2:=xb.lt;omega)))))
       have F8:=qh (F5.out.same K8.out)
       have KK8:=qh (K5.out.trans K8.out)
       clear hDn QX p0 f0 p1 f1 z0 z1 pg fg zg
       go_wp2_with fail
       go_meet
       case rel=>
        refine⟨w6.heap.size,a7,c7,rfl,rfl,GY.out,⟨?_,?_,?_,trivial⟩,?_,?_,HA7.out⟩
        ·refine F8.out.1.kept (fp:=fun j=>j=w6.heap.size) ?_ (by have:=GY.out;omega)
         (repeat(with_reducible first|exact Kept.refl _ _|refine Kept.setG ?_ _ _))
        ·refine F8.out.2.1.kept (fp:=fun j=>j=w6.heap.size) ?_ (by have:=GY.out;omega)
         (repeat(with_reducible first|exact Kept.refl _ _|refine Kept.setG ?_ _ _))
        ·with_reducible exact Blk.set5 BG.out
        ·repeat(with_reducible first|exact KK8.out|refine Kept.setNew ?_ (by have:=GY.out;have:=HY.out;dsimp only;omega) _)
        ·refine HS8.out.kept (fp:=fun j=>j=w6.heap.size) ?_ HX7.out
         (repeat(with_reducible first|exact Kept.refl _ _|refine Kept.setG ?_ _ _))
     ·go_simp
      refine hK.out _ _ (((Kept.refl _ _).alloc _).drew) (fun hHeld2 hDn2=>?_)
      clear hK K' hHeld hDn
      have hHeld:=hHeld2;have hDn:=hDn2
      clear hHeld2 hDn2
      refine cutT (fun wb=>Blk wb w5.heap.size #[.slice none 0 0,.bool false,.int .i64 0,.int .i64 0,.bool false] 104∧Same w5 wb) ⟨(Blk.new _ _ _).drew,((Kept.refl _ _).alloc _).drew⟩ ?_
      rintro wb ⟨xb,kb⟩
      clear hHeld
      have KB:=qh kb
      have hHeld:=KB.out
      have GY:=qh (show y+2≤w5.heap.size from by have h2:=F5.out.2.1.lt;omega)
      refine wpT_one (i:=3) rfl (by kernel_rfl) hDn (fun K' hK=>?_)
      go_simp
      refine(AR.out _).mono ?_
      rintro e w6 ⟨rfl,k6⟩
      have K6:=qh (show Same w5 w6 from KB.out.trans k6)
      refine hK.out _ _ K6.out (fun hHeld2 hDn2=>?_)
      clear hK K' hHeld hDn
      have hHeld:=hHeld2;have hDn:=hDn2
      clear hHeld2 hDn2
      have k6':=k6
      clear k6
      have xb6:=xb.kept k6' (fun q=>q)
      refine wpT_one (i:=6) rfl (by kernel_rfl) hDn (fun K' hK=>?_)
      go_simp
      refine(RD.out _ (K5.out.trans K6.out)).mono ?_
      rintro e w7 ⟨a7,c7,rfl,⟨hs7,hf7⟩,k7⟩
      have HS7:=qh hs7
      have K7:=qh (show Same w5 w7 from(K6.out).trans k7)
      have HA7:=qh (show a7=A.a∨∀x,a7=some x→w5.heap.size≤x.block from hf7.imp_right (fun h x hx=>Nat.le_trans K6.out.size (h x hx)))
      have HF7:=qh hf7
      clear hs7 hf7
      unfold refV
      refine hK.out _ _ K7.out (fun hHeld2 hDn2=>?_)
      clear hK K' hHeld hDn
      have hHeld:=hHeld2;have hDn:=hDn2
      clear hHeld2 hDn2
      have k7':=k7
      clear k7
      have K8:=K7
      have HS8:=HS7
      have BG:=qh (xb6.kept k7' (fun q=>q))
      refine wpT_zw 7 27 hHeld hDn fun hDn=>?_
      refine wpT_zw 8 35 hHeld hDn fun hDn=>?_
      refine wpT_zw 9 36 hHeld hDn fun hDn=>?_
      obtain⟨pg,fg, -⟩:=(show Fr _ [(w5.heap.size,#[.slice none 0 0,.bool false,.int .i64 0,.int .i64 0,.bool false],104)]from⟨BG.out,trivial⟩).rules
      have zg:=BG.out.lt
      refine wpT_last rfl (by kernel_rfl) hDn (fun K hK=>?_)
      go_simp
      refine hK.out _ _ (fun hDn'=>?_)
      clear hK K hDn hHeld;have hDn:=hDn';clear hDn'
      refine wpT_ze 12 9 hDn fun hDn=>?_
      refine wpT_done (by kernel_rfl) ?_ _
      have HX7:=qh (show D2.s=[]∨∀x,a7=some x→x.block≠w5.heap.size from((HF7.out.elim (fun r=>PA.out.2.2.1.elim (fun z=>.inl (List.eq_nil_of_length_eq_zero (by rw[PA.out.2.2.2,z];rfl))) (fun z=>.inr (fun x hx=>by have h1:=z x (by rw[←r];exact hx);have h2:=HY.out;have h3:=GY.out;omega))) (fun r=>.inr (fun x hx=>by have h1:=r x hx;have h2:=xb6.lt;omega)))))
      have F8:=qh (F5.out.same K8.out)
      have KK8:=qh (K5.out.trans K8.out)
      clear hDn QX p0 f0 p1 f1 z0 z1 pg fg zg
      go_wp2_with fail
      go_meet
      case rel=>
       refine⟨w5.heap.size,a7,c7,rfl,rfl,GY.out,⟨?_,?_,?_,trivial⟩,?_,?_,HA7.out⟩
       ·refine F8.out.1.kept (fp:=fun j=>j=w5.heap.size) ?_ (by have:=GY.out;omega)
        (repeat(with_reducible first|exact Kept.refl _ _|refine Kept.setG ?_ _ _))
       ·refine F8.out.2.1.kept (fp:=fun j=>j=w5.heap.size) ?_ (by have:=GY.out;omega)
        (repeat(with_reducible first|exact Kept.refl _ _|refine Kept.setG ?_ _ _))
       ·with_reducible exact Blk.set5 BG.out
       ·repeat(with_reducible first|exact KK8.out|refine Kept.setNew ?_ (by have:=GY.out;have:=HY.out;dsimp only;omega) _)
       ·refine HS8.out.kept (fp:=fun j=>j=w5.heap.size) ?_ HX7.out
        (repeat(with_reducible first|exact Kept.refl _ _|refine Kept.setG ?_ _ _))
    case rest=>
     obtain⟨g,a7,c7,rfl,rfl,hg,hf,hk,hs,ha⟩:=hcut
     have F9:=qh hf
     have K9:=qh hk
     have HS9:=qh hs
     have AP:=qh (show Apt a7 fp from by
      rcases ha with r|r
      ·rw[r];exact PA.out.1
      ·exact far_apt (w:=w5) r (fun g hg=>Nat.lt_of_lt_of_le (PA.out.2.1 g hg) K5.out.size))
     have AX:=qh (show D2.s=[]∨∀x,a7=some x→¬x.block=y+1 from by
      rcases ha with r|r
      ·rcases PA.out.2.2.1 with z|z
       ·exact .inl (List.eq_nil_of_length_eq_zero (by rw[PA.out.2.2.2,z];rfl))
       ·exact .inr (fun x hx=>by have:=z x (by rw[←r];exact hx);have:=HY.out;omega)
      ·exact .inr (fun x hx=>by have h1:=r x hx;have:=F5.out.2.1.lt;omega))
     clear p0 f0 p1 f1 z0 z1 hf hk hs ha QX AR RD F5 K5
     obtain⟨p0,f0,p1,f1,p2,f2, -⟩:=F9.out.rules
     have z0:=F9.out.1.lt
     have z1:=F9.out.2.1.lt
     have z2:=F9.out.2.2.1.lt
     have B1:=qh (show Blk wc (y+1) #[.slice none 0 0,.bool false,.int .i64 0,.int .i64 0,.bool false,.int .i64 0,.int .i64 0,.slice none 0 0,.int .i64 0,.slice none 0 0,.slice none 0 0,.int .i64 0,.int .i64 0,.bool false] 107 from F9.out.2.1)
     by_cases h5:er=5
     ·subst h5
      have NE:=qh (NO.out 5 ((HN.out 5).2.2 HE'.out (by first|trivial|rfl) (by first|trivial|rfl)))
      clear YES DI NO HN
      go_wp2_with fail
      (try simp only[Exit.inBlock,Exit.then])
      refine cutE (fun W=>Blk W (y+1) #[.slice A.a S.D.s.length A.c,.bool S.D.off,.int .i64 S.D.calls,.int .i64 S.D.after,.bool S.D.done,.int .i64 (S.r.ring:Nat),.int .i64 (S.nsize:Nat),.slice A.na S.nwords.length A.nc,.int .i64 (S.r.size:Nat),.slice A.ca S.r.words.length A.cc,.slice A.ba S.r.body.length A.bc,.int .i64 (S.r.gen:Nat),.int .i64 (S.r.slot:Nat),.bool false] 107∧Same w W) ⟨by with_reducible exact Blk.set14 B1.out,by with_reducible exact Kept.set14 K9.out (by have:=HY.out;omega)⟩ ?_
      rintro wz ⟨bz,kz⟩
      refine bodyPost_ret (results_ctmp (b:=.int .i64 5) rfl _ _ _ _ _ _ rfl bz rfl rfl rfl (by kernel_rfl)) rfl ?_
      exact NE.out wz kz
     ·have g5:(((er:Nat):Int)==5)=false:=by simp;omega
      have YE:=qh (YES.out HE'.out (by first|trivial|rfl) h5 b2 HB2.out a7 c7)
      have DE:=qh (DI.out a7 c7)
      clear YES DI NO HN h5
      go_wp2_with fail
      with_reducible refine(DE.out wc).mono ?_
      rintro e w9 ⟨rfl,k9⟩
      have F10:=qh (F9.out.same k9)
      have K10:=qh (K9.out.trans k9)
      have HS10:=qh (HS9.out.same k9)
      clear p0 f0 p1 f1 p2 f2 z0 z1 z2 F9 K9 HS9 k9 B1
      obtain⟨p0,f0,p1,f1,p2,f2, -⟩:=F10.out.rules
      have z1:=F10.out.2.1.lt
      have B1:=qh (show Blk w9 (y+1) #[.slice none 0 0,.bool false,.int .i64 0,.int .i64 0,.bool false,.int .i64 0,.int .i64 0,.slice none 0 0,.int .i64 0,.slice none 0 0,.slice none 0 0,.int .i64 0,.int .i64 0,.bool false] 107 from F10.out.2.1)
      go_wp2_with fail
      (try simp only[Exit.inBlock,Exit.then])
      refine cutE (fun W=>Blk W (y+1) #[.slice a7 D2.s.length c7,.bool D2.off,.int .i64 D2.calls,.int .i64 D2.after,.bool D2.done,.int .i64 (S.r.ring:Nat),.int .i64 (S.nsize:Nat),.slice A.na S.nwords.length A.nc,.int .i64 (S.r.size:Nat),.slice A.ca S.r.words.length A.cc,.slice A.ba S.r.body.length A.bc,.int .i64 (S.r.gen:Nat),.int .i64 (S.r.slot:Nat),.bool b2] 107∧Same w W∧SecsAt W a7 D2.s) ⟨by with_reducible exact Blk.set14 B1.out,by with_reducible exact Kept.set14 K10.out (by have:=HY.out;omega),?_⟩ ?_
      ·refine HS10.out.kept (fp:=fun j=>j=y+1) ?_ AX.out
       (repeat(with_reducible first|exact Kept.refl _ _|refine Kept.setG ?_ _ _))
      rintro wz ⟨bz,kz,sz⟩
      refine bodyPost_ret (results_ctmp (b:=.int .i64 ((er:Nat):Int)) rfl _ _ _ _ _ _ rfl bz rfl rfl rfl (by kernel_rfl)) rfl ?_
      exact YE.out wz kz sz AP.out
   ·have B1:=qh (show Blk w5 (y+1) #[.slice none 0 0,.bool false,.int .i64 0,.int .i64 0,.bool false,.int .i64 0,.int .i64 0,.slice none 0 0,.int .i64 0,.slice none 0 0,.slice none 0 0,.int .i64 0,.int .i64 0,.bool false] 107 from F5.out.2.1)
    clear YES AR RD
    go_wp2_with fail
    (try simp only[Exit.inBlock,Exit.then])
    refine cutE (fun W=>Blk W (y+1) #[.slice A.a S.D.s.length A.c,.bool S.D.off,.int .i64 S.D.calls,.int .i64 S.D.after,.bool S.D.done,.int .i64 (S.r.ring:Nat),.int .i64 (S.nsize:Nat),.slice A.na S.nwords.length A.nc,.int .i64 (S.r.size:Nat),.slice A.ca S.r.words.length A.cc,.slice A.ba S.r.body.length A.bc,.int .i64 (S.r.gen:Nat),.int .i64 (S.r.slot:Nat),.bool false] 107∧Same w W) ⟨by with_reducible exact Blk.set14 B1.out,by with_reducible exact Kept.set14 K5.out (by have:=HY.out;omega)⟩ ?_
    rintro wz ⟨bz,kz⟩
    refine bodyPost_ret (results_ctmp (b:=.int .i64 11) rfl _ _ _ _ _ _ rfl bz rfl rfl rfl (by kernel_rfl)) rfl ?_
    exact NO.out 11 ((HN.out 11).2.1 HE'.out (by first|trivial|rfl)) wz kz
 ·have HE':=qh (show E=11 from HE.out)
  have B1:=qh (show Blk w4 (y+1) #[.slice none 0 0,.bool false,.int .i64 0,.int .i64 0,.bool false,.int .i64 0,.int .i64 0,.slice none 0 0,.int .i64 0,.slice none 0 0,.slice none 0 0,.int .i64 0,.int .i64 0,.bool false] 107 from F4.out.2.1)
  clear YES AR RD HAS HE HA2
  go_wp2_with fail
  (try simp only[Exit.inBlock,Exit.then])
  refine cutE (fun W=>Blk W (y+1) #[.slice A.a S.D.s.length A.c,.bool S.D.off,.int .i64 S.D.calls,.int .i64 S.D.after,.bool S.D.done,.int .i64 (S.r.ring:Nat),.int .i64 (S.nsize:Nat),.slice A.na S.nwords.length A.nc,.int .i64 (S.r.size:Nat),.slice A.ca S.r.words.length A.cc,.slice A.ba S.r.body.length A.bc,.int .i64 (S.r.gen:Nat),.int .i64 (S.r.slot:Nat),.bool true] 107∧Same w W) ⟨by with_reducible exact Blk.set14 B1.out,by with_reducible exact Kept.set14 K4.out (by have:=HY.out;omega)⟩ ?_
  rintro wz ⟨bz,kz⟩
  refine bodyPost_ret (results_ctmp (b:=.int .i64 11) rfl _ _ _ _ _ _ rfl bz rfl rfl rfl (by kernel_rfl)) rfl ?_
  exact NO.out 11 ((HN.out 11).1 (by rw[HE'.out];decide) HE'.out.symm) wz kz
end
section
open Go.RowKit Go.Sort Go.Shelf
theorem hasM_at{s:Nat}{ws:List Nat}(h:mapOK (s:Nat) ws=true){n:Nat}(hn:n<s):hasM (s:Nat) ws (n:Nat)=bitN ws n:=by
 have hi:inB (s:Nat) ws (n:Nat)=true:=by
  simp only[inB,h,Bool.true_and,Bool.and_eq_true,decide_eq_true_eq]
  omega
 unfold hasM
 rw[hi,Bool.true_and,Int.toNat_natCast]
theorem Sto.Fit.has2{S:Sto}(hf:S.Fit){j:Nat}(hj:j<S.nsize):bitN S.both j=(hasM (S.nsize:Nat) S.nwords (j:Nat)||hasM (S.r.size:Nat) S.r.words (j:Nat)):=by
 rw[hf.one,hasM_at hf.now hj,hasM_at hf.cnt hj]
 exact or_bits _ _ _ _ (by omega)
theorem pick_at{S:Sto}(hf:S.Fit){n:Nat}(hn:n<S.nsize)(h:∀j:Nat,j<n→(hasM (S.nsize:Nat) S.nwords (j:Nat)||hasM (S.r.size:Nat) S.r.words (j:Nat))=true)(h1:hasM (S.nsize:Nat) S.nwords (n:Nat)=false)(h2:hasM (S.r.size:Nat) S.r.words (n:Nat)=false):S.pick=some n:=by
 unfold Sto.pick nextF
 rw[if_pos hf.bothOK,Int.toNat_natCast]
 have:=find_range (fun j:Nat=>decide ((0:Int)≤(j:Int))&&(bitN S.both j==false)) S.nsize
 cases hq:(List.range S.nsize).find? (fun j:Nat=>decide ((0:Int)≤(j:Int))&&(bitN S.both j==false))with
 |none=>
  rw[hq]at this
  have:=this n hn
  simp[hf.has2 hn,h1,h2]at this
 |some k=>
  rw[hq]at this
  obtain⟨k1,k2,k3⟩:=this
  rcases Nat.lt_trichotomy k n with q|q|q
  ·have:=h k q
   simp[hf.has2 k1]at k2 this
   simp[k2]at this
  ·rw[q]
  ·have:=k3 n q
   simp[hf.has2 hn,h1,h2]at this
theorem pick_full{S:Sto}(hf:S.Fit)(h:∀j:Nat,j<S.nsize→(hasM (S.nsize:Nat) S.nwords (j:Nat)||hasM (S.r.size:Nat) S.r.words (j:Nat))=true):S.pick=none:=by
 unfold Sto.pick nextF
 rw[if_pos hf.bothOK,Int.toNat_natCast]
 have:=find_range (fun j:Nat=>decide ((0:Int)≤(j:Int))&&(bitN S.both j==false)) S.nsize
 cases hq:(List.range S.nsize).find? (fun j:Nat=>decide ((0:Int)≤(j:Int))&&(bitN S.both j==false))with
 |none=>rfl
 |some k=>
  rw[hq]at this
  obtain⟨k1,k2, -⟩:=this
  have:=h k k1
  simp[hf.has2 k1]at k2 this
  simp[k2]at this
def RtA(w:World)(S:Sto)(n k:Nat)(fp:Nat→Prop)(e:Ending)(w':World):Prop:=∃A,e=.returned (.tuple #[rsV S A,.int .i64 (n:Nat),.int .i64 (k:Nat)])∧RSp w' S A fp∧Same w w'
theorem rt_alloc(S:Sto)(A:RA)(fp:Nat→Prop)(hf:S.Fit)(h512:S.nsize≤512)(w:World)(h:RSp w S A fp):
 Calls Tryz.prog 70 #[rsV S A] w (RtA w S.alloc.1 S.alloc.2.1 S.alloc.2.2 fp):=by
 obtain⟨R,hR⟩:∃R,RtA w S.alloc.1 S.alloc.2.1 S.alloc.2.2 fp=R:=⟨_,rfl⟩
 rw[hR]
 have NO:=qh (fun(er:Nat) (he:S.alloc=(S,0,er)) W (k:Same w W)=>show R (.returned (.tuple #[rsV S A,.int .i64 0,.int .i64 (er:Nat)])) W from by
  rw[←hR,he]
  exact⟨A,rfl,h.same k,k⟩)
 have YES:=qh (fun(i:Nat) (T:List Nat) (hT:setN (S.nsize:Nat) S.nwords (i:Nat) true=T) (he:S.alloc=({S with nwords:=T},i,0)) (v:Option Addr) (c:Nat) W (k:Same w W) (hat:NatsAt W .u64 v T) (hn:v=none→c=0) (hp:Apt v fp)=>show R (.returned (.tuple #[.agg #[.slice A.a S.D.s.length A.c,.bool S.D.off,.int .i64 S.D.calls,.int .i64 S.D.after,.bool S.D.done,.int .i64 (S.r.ring:Nat),.int .i64 (S.nsize:Nat),.slice v T.length c,.int .i64 (S.r.size:Nat),.slice A.ca S.r.words.length A.cc,.slice A.ba S.r.body.length A.bc,.int .i64 (S.r.gen:Nat),.int .i64 (S.r.slot:Nat),.bool S.bad],.int .i64 (i:Nat),.int .i64 0])) W from by
  rw[←hR,he]
  have h2:=h.same k
  exact⟨{A with na:=v,nc:=c},rfl,⟨⟨h2.st.ds,hat,h2.st.cs,h2.st.bs,hn,h2.st.cnil,h2.st.bnil,h2.st.bcap,h2.st.bl⟩,h2.lt,h2.pa,hp,h2.pc,h2.pb⟩,k⟩)
 have GOT:=qh (fun(hb:S.bad=false) (i:Nat) (hi:i<S.nsize) (hj:∀j:Nat,j<i→(hasM (S.nsize:Nat) S.nwords (j:Nat)||hasM (S.r.size:Nat) S.r.words (j:Nat))=true) (h1:hasM (S.nsize:Nat) S.nwords (i:Nat)=false) (h2:hasM (S.r.size:Nat) S.r.words (i:Nat)=false)=>show S.alloc=({S with nwords:=setN (S.nsize:Nat) S.nwords (i:Nat) true},i,0)from by
  unfold Sto.alloc
  rw[if_neg (by rw[hb];decide),pick_at hf hi hj h1 h2])
 have FULL:=qh (fun(hb:S.bad=false) (hj:∀j:Nat,j<S.nsize→(hasM (S.nsize:Nat) S.nwords (j:Nat)||hasM (S.r.size:Nat) S.r.words (j:Nat))=true)=>show S.alloc=(S,0,7)from by
  unfold Sto.alloc
  rw[if_neg (by rw[hb];decide),pick_full hf hj])
 have BAD:=qh (fun(hb:S.bad=true)=>show S.alloc=(S,0,11)from by
  unfold Sto.alloc
  rw[if_pos hb])
 have HAS:=qh (fun(i:Nat) w' (k:Same w w')=>rb_has (S.nsize:Nat) A.na A.nc S.nwords (i:Nat) w' hf.nw (h.st.ns.same k))
 have HA2:=qh (fun(i:Nat) w' (k:Same w w')=>rb_has (S.r.size:Nat) A.ca A.cc S.r.words (i:Nat) w' hf.rw_ (h.st.cs.same k))
 have SET:=qh (fun(i:Nat) w' (k:Same w w')=>rb_setF (S.nsize:Nat) A.na A.nc S.nwords (i:Nat) true w' hf.nw h.st.nnil (h.st.ns.same k))
 have NB:=qh (show(∀i:Nat,(setN (S.nsize:Nat) S.nwords (i:Nat) true).length=S.nwords.length)∧(S.nwords=[]∨∀x,A.na=some x→x.block<w.heap.size)from⟨fun i=>setN_len' _ _ _ _,by
  rcases h.st.ns with r|⟨b,off,r,hb,_⟩
  ·exact .inl r
  ·exact .inr (fun x hx=>by rw[r]at hx;cases hx;exact hb)⟩)
 have PN:=qh (show Apt A.na fp∧∀g,fp g→g<w.heap.size from⟨h.pn,h.lt⟩)
 have H5:=qh h512
 obtain⟨bd,hbd⟩:∃bd,S.bad=bd:=⟨_,rfl⟩
 unfold rsV rsC at NO ⊢
 unfold mapV at HAS HA2 SET
 rw[hbd]at NO YES GOT FULL BAD ⊢
 clear hR h hbd hf h512
 go_enter Tryz.func70,Tryz.ntmps70
 go_upto_region 1 with fail
 obtain⟨y,hy⟩:∃y,w.heap.size=y:=⟨_,rfl⟩
 rw[hy]
 refine cutWl (fun wn=>Fr wn [(y,#[.slice A.a S.D.s.length A.c,.bool S.D.off,.int .i64 S.D.calls,.int .i64 S.D.after,.bool S.D.done,.int .i64 (S.r.ring:Nat),.int .i64 (S.nsize:Nat),.slice A.na S.nwords.length A.nc,.int .i64 (S.r.size:Nat),.slice A.ca S.r.words.length A.cc,.slice A.ba S.r.body.length A.bc,.int .i64 (S.r.gen:Nat),.int .i64 (S.r.slot:Nat),.bool bd],107),(y+1,#[.slice none 0 0,.bool false,.int .i64 0,.int .i64 0,.bool false,.int .i64 0,.int .i64 0,.slice none 0 0,.int .i64 0,.slice none 0 0,.slice none 0 0,.int .i64 0,.int .i64 0,.bool false],107)]∧Same w wn) ⟨⟨(Blk.new' _ _ _ hy.symm).alloc _,Blk.new' _ _ _ (by simp[hy]),trivial⟩,((Kept.refl _ _).alloc _).alloc _⟩ ?_
 rintro w4 ⟨hf4,k4⟩
 have F4:=qh hf4
 have K4:=qh k4
 have HY:=qh hy
 obtain⟨p0,f0,p1,f1, -⟩:=F4.out.rules
 have z0:=F4.out.1.lt
 have z1:=F4.out.2.1.lt
 clear hf4 k4 hy
 cases bd
 ·go_wp2_with fail
  go_loopw [5] (fun t wr=>∃i:Nat,t=.int .i64 i∧i≤S.nsize∧(∀j:Nat,j<i→(hasM (S.nsize:Nat) S.nwords (j:Nat)||hasM (S.r.size:Nat) S.r.words (j:Nat))=true)∧Same w4 wr) (fun t _=>S.nsize - (intOf t).toNat)
  case atStart=>exact⟨0,rfl,by omega,fun j hj=>by omega,Kept.refl _ _⟩
  case round=>
   obtain⟨i,rfl,hi,hj,hk⟩:=hrel
   have HI:=qh hi;have HJ:=qh hj
   have K5:=qh (K4.out.trans hk)
   have F5:=qh (F4.out.same hk)
   have KR:=qh hk
   clear p0 f0 p1 f1 z0 z1 F4 K4 hk hi hj
   obtain⟨p0,f0,p1,f1, -⟩:=F5.out.rules
   have z0:=F5.out.1.lt
   have z1:=F5.out.2.1.lt
   by_cases hgo:i<S.nsize
   ·have g1:(i:Int)<(S.nsize:Int):=by omega
    have GOT1:=qh (GOT.out (by first|trivial|rfl) i hgo HJ.out)
    have HS1:=qh (HAS.out i)
    have HS2:=qh (HA2.out i)
    have NXT:=qh (fun(hb:(hasM (S.nsize:Nat) S.nwords (i:Nat)||hasM (S.r.size:Nat) S.r.words (i:Nat))=true) (j:Nat) (hji:j<i+1)=>show(hasM (S.nsize:Nat) S.nwords (j:Nat)||hasM (S.r.size:Nat) S.r.words (j:Nat))=true from by
     by_cases q:j<i
     ·exact HJ.out j q
     ·obtain rfl:j=i:=by omega
      exact hb)
    obtain⟨h1,hh1⟩:∃h1,hasM (S.nsize:Nat) S.nwords (i:Nat)=h1:=⟨_,rfl⟩
    obtain⟨h2,hh2⟩:∃h2,hasM (S.r.size:Nat) S.r.words (i:Nat)=h2:=⟨_,rfl⟩
    rw[hh1]at HS1 GOT1 NXT
    rw[hh2]at HS2 GOT1 NXT
    clear hh1 hh2 GOT FULL BAD HAS HA2
    have NB1:=qh (show IntKind.i64.wrap ((i:Int)+1)=(i:Int)+1 from by have:=H5.out;rw[IntKind.wrap_i64];omega)
    have nw:=NB1.out
    have hgo':=qh hgo
    clear hgo
    go_wp2_with fail
    with_reducible refine(HS1.out wr K5.out).mono ?_
    rintro e w5 ⟨rfl,k5⟩
    have K6:=qh (K5.out.trans k5)
    have F6:=qh (F5.out.same k5)
    have KR6:=qh (KR.out.trans k5)
    clear p0 f0 p1 f1 z0 z1 F5 K5 k5 HS1 KR
    obtain⟨p0,f0,p1,f1, -⟩:=F6.out.rules
    have z0:=F6.out.1.lt
    have z1:=F6.out.2.1.lt
    cases h1
    ·go_wp2_with fail
     with_reducible refine(HS2.out w5 K6.out).mono ?_
     rintro e w6 ⟨rfl,k6⟩
     have K7:=qh (K6.out.trans k6)
     have F7:=qh (F6.out.same k6)
     have KR7:=qh (KR6.out.trans k6)
     clear p0 f0 p1 f1 z0 z1 F6 K6 k6 HS2 KR6
     obtain⟨p0,f0,p1,f1, -⟩:=F7.out.rules
     have z0:=F7.out.1.lt
     have z1:=F7.out.2.1.lt
     cases h2
     ·have AE:=qh (GOT1.out (by first|trivial|rfl) (by first|trivial|rfl))
      have SE:=qh (SET.out i)
      have YE:=qh (YES.out i _ rfl AE.out)
      have NL:=qh (NB.out.1 i)
      obtain⟨T,hT⟩:∃T,setN (S.nsize:Nat) S.nwords (i:Nat) true=T:=⟨_,rfl⟩
      rw[hT]at SE YE NL
      clear GOT1 AE hT SET YES NXT
      go_wp2_with fail
      with_reducible refine(SE.out w6 K7.out).mono ?_
      rintro e w7 ⟨v,c,rfl,hat,hn,hva,k7⟩
      have HV:=qh (show Apt v fp from by
       rcases hva with r|r
       ·rw[r];exact PN.out.1
       ·exact far_apt r (fun g hg=>Nat.lt_of_lt_of_le (PN.out.2 g hg) K7.out.size))
      have HN:=qh hn
      have HVA:=qh (show T=[]∨∀x,v=some x→x.block≠y∧x.block≠y+1 from by
       have hz1:=F7.out.2.1.lt
       rcases hva with r|r
       ·rcases NB.out.2 with z|z
        ·exact .inl (List.eq_nil_of_length_eq_zero (by rw[NL.out,z];rfl))
        ·exact .inr (fun x hx=>by have:=z x (by rw[←r];exact hx);have:=HY.out;omega)
       ·exact .inr (fun x hx=>by have h1:w6.heap.size≤x.block:=r x hx;omega))
      have HAT:=qh hat
      have K8:=qh (K7.out.trans k7)
      have F8:=qh (F7.out.same k7)
      clear p0 f0 p1 f1 z0 z1 F7 K7 k7 SE hat hn hva
      obtain⟨p0,f0,p1,f1, -⟩:=F8.out.rules
      have z0:=F8.out.1.lt
      have z1:=F8.out.2.1.lt
      have B0:=qh (show Blk w7 y #[.slice A.a S.D.s.length A.c,.bool S.D.off,.int .i64 S.D.calls,.int .i64 S.D.after,.bool S.D.done,.int .i64 (S.r.ring:Nat),.int .i64 (S.nsize:Nat),.slice A.na S.nwords.length A.nc,.int .i64 (S.r.size:Nat),.slice A.ca S.r.words.length A.cc,.slice A.ba S.r.body.length A.bc,.int .i64 (S.r.gen:Nat),.int .i64 (S.r.slot:Nat),.bool false] 107 from F8.out.1)
      have B1:=qh (show Blk w7 (y+1) #[.slice none 0 0,.bool false,.int .i64 0,.int .i64 0,.bool false,.int .i64 0,.int .i64 0,.slice none 0 0,.int .i64 0,.slice none 0 0,.slice none 0 0,.int .i64 0,.int .i64 0,.bool false] 107 from F8.out.2.1)
      unfold mapV
      go_upto_region 8 with fail
      refine cutWl (fun wn=>Fr wn [(y,#[.slice A.a S.D.s.length A.c,.bool S.D.off,.int .i64 S.D.calls,.int .i64 S.D.after,.bool S.D.done,.int .i64 (S.r.ring:Nat),.int .i64 (S.nsize:Nat),.slice v T.length c,.int .i64 (S.r.size:Nat),.slice A.ca S.r.words.length A.cc,.slice A.ba S.r.body.length A.bc,.int .i64 (S.r.gen:Nat),.int .i64 (S.r.slot:Nat),.bool false],107),(y+1,#[.slice none 0 0,.bool false,.int .i64 0,.int .i64 0,.bool false,.int .i64 0,.int .i64 0,.slice none 0 0,.int .i64 0,.slice none 0 0,.slice none 0 0,.int .i64 0,.int .i64 0,.bool false],107)]∧Same w wn∧NatsAt wn .u64 v T) ⟨⟨by with_reducible exact Blk.set67 B0.out,?_,trivial⟩,?_,?_⟩ ?_
      ·refine B1.out.kept (fp:=fun j=>j=y) ?_ (by omega)
       (repeat(with_reducible first|exact Kept.refl _ _|refine Kept.setG ?_ _ _))
      ·repeat(with_reducible first|exact K8.out|refine Kept.setNew ?_ (by have:=HY.out;dsimp only;omega) _)
      ·refine HAT.out.kept' (fp:=fun j=>j=y) ?_ (HVA.out.imp_right (fun h x hx=>(h x hx).1))
       (repeat(with_reducible first|exact Kept.refl _ _|refine Kept.setG ?_ _ _))
      rintro w8 ⟨hf8,k8,hn8⟩
      have F9:=qh hf8
      have K9:=qh k8
      have HAT9:=qh hn8
      clear p0 f0 p1 f1 z0 z1 F8 B0 B1 hf8 k8 hn8 K8 HAT
      obtain⟨p0,f0,p1,f1, -⟩:=F9.out.rules
      have z0:=F9.out.1.lt
      have z1:=F9.out.2.1.lt
      have B1:=qh (show Blk w8 (y+1) #[.slice none 0 0,.bool false,.int .i64 0,.int .i64 0,.bool false,.int .i64 0,.int .i64 0,.slice none 0 0,.int .i64 0,.slice none 0 0,.slice none 0 0,.int .i64 0,.int .i64 0,.bool false] 107 from F9.out.2.1)
      go_wp2_with fail
      (try simp only[Exit.inBlock,Exit.then])
      refine cutE (fun W=>Blk W (y+1) #[.slice A.a S.D.s.length A.c,.bool S.D.off,.int .i64 S.D.calls,.int .i64 S.D.after,.bool S.D.done,.int .i64 (S.r.ring:Nat),.int .i64 (S.nsize:Nat),.slice v T.length c,.int .i64 (S.r.size:Nat),.slice A.ca S.r.words.length A.cc,.slice A.ba S.r.body.length A.bc,.int .i64 (S.r.gen:Nat),.int .i64 (S.r.slot:Nat),.bool false] 107∧Same w W∧NatsAt W .u64 v T) ⟨by with_reducible exact Blk.set14 B1.out,by with_reducible exact Kept.set14 K9.out (by have:=HY.out;omega),?_⟩ ?_
      ·refine HAT9.out.kept' (fp:=fun j=>j=y+1) ?_ (HVA.out.imp_right (fun h x hx=>(h x hx).2))
       (repeat(with_reducible first|exact Kept.refl _ _|refine Kept.setG ?_ _ _))
      rintro wz ⟨bz,kz,nz⟩
      refine bodyPost_ret (results_ctmp2 (b:=.int .i64 (i:Nat)) (c:=.int .i64 0) rfl _ _ _ _ _ _ rfl bz rfl rfl rfl rfl (by kernel_rfl)) rfl ?_
      exact YE.out v c wz kz nz HN.out HV.out
     ·clear GOT1 SET YES
      go_wp2_with fail
      go_roundw
      case rel=>exact⟨i+1,by go_num,by have:=hgo'.out;omega,NXT.out (by first|trivial|rfl),KR7.out⟩
      case measure=>have:=hgo'.out;simp[intOf];omega
    ·clear GOT1 SET YES HS2
     go_wp2_with fail
     go_roundw
     case rel=>exact⟨i+1,by go_num,by have:=hgo'.out;omega,NXT.out (by first|trivial|rfl),KR6.out⟩
     case measure=>have:=hgo'.out;simp[intOf];omega
   ·have g1:¬(i:Int)<(S.nsize:Int):=by omega
    obtain rfl:i=S.nsize:=by have:=HI.out;omega
    have AE:=qh (FULL.out (by first|trivial|rfl) HJ.out)
    have B1:=qh (show Blk wr (y+1) #[.slice none 0 0,.bool false,.int .i64 0,.int .i64 0,.bool false,.int .i64 0,.int .i64 0,.slice none 0 0,.int .i64 0,.slice none 0 0,.slice none 0 0,.int .i64 0,.int .i64 0,.bool false] 107 from F5.out.2.1)
    clear GOT FULL BAD HAS HA2 SET YES HJ HI
    go_wp2_with fail
    (try simp only[Exit.inBlock,Exit.then])
    refine cutE (fun W=>Blk W (y+1) #[.slice A.a S.D.s.length A.c,.bool S.D.off,.int .i64 S.D.calls,.int .i64 S.D.after,.bool S.D.done,.int .i64 (S.r.ring:Nat),.int .i64 (S.nsize:Nat),.slice A.na S.nwords.length A.nc,.int .i64 (S.r.size:Nat),.slice A.ca S.r.words.length A.cc,.slice A.ba S.r.body.length A.bc,.int .i64 (S.r.gen:Nat),.int .i64 (S.r.slot:Nat),.bool false] 107∧Same w W) ⟨by with_reducible exact Blk.set14 B1.out,by with_reducible exact Kept.set14 K5.out (by have:=HY.out;omega)⟩ ?_
    rintro wz ⟨bz,kz⟩
    refine bodyPost_ret (results_ctmp2 (b:=.int .i64 0) (c:=.int .i64 7) rfl _ _ _ _ _ _ rfl bz rfl rfl rfl rfl (by kernel_rfl)) rfl ?_
    exact NO.out 7 AE.out wz kz
 ·have AE:=qh (BAD.out (by first|trivial|rfl))
  have B1:=qh (show Blk w4 (y+1) #[.slice none 0 0,.bool false,.int .i64 0,.int .i64 0,.bool false,.int .i64 0,.int .i64 0,.slice none 0 0,.int .i64 0,.slice none 0 0,.slice none 0 0,.int .i64 0,.int .i64 0,.bool false] 107 from F4.out.2.1)
  clear GOT FULL BAD HAS HA2 SET YES
  go_wp2_with fail
  (try simp only[Exit.inBlock,Exit.then])
  refine cutE (fun W=>Blk W (y+1) #[.slice A.a S.D.s.length A.c,.bool S.D.off,.int .i64 S.D.calls,.int .i64 S.D.after,.bool S.D.done,.int .i64 (S.r.ring:Nat),.int .i64 (S.nsize:Nat),.slice A.na S.nwords.length A.nc,.int .i64 (S.r.size:Nat),.slice A.ca S.r.words.length A.cc,.slice A.ba S.r.body.length A.bc,.int .i64 (S.r.gen:Nat),.int .i64 (S.r.slot:Nat),.bool true] 107∧Same w W) ⟨by with_reducible exact Blk.set14 B1.out,by with_reducible exact Kept.set14 K4.out (by have:=HY.out;omega)⟩ ?_
  rintro wz ⟨bz,kz⟩
  refine bodyPost_ret (results_ctmp2 (b:=.int .i64 0) (c:=.int .i64 11) rfl _ _ _ _ _ _ rfl bz rfl rfl rfl rfl (by kernel_rfl)) rfl ?_
  exact NO.out 11 AE.out wz kz
end
end Go.Proofs.YtmiglhlbhbfodaaGreatDoor
