/- GSecB: Sec6, Sec7, Sec8, Sec9, StrD, SafeP. -/
import Derived.Test.YtmiglhlbhbfodaaGreatDoorGSecA
import Derived.Test.YtmiglhlbhbfodaaGreatDoorShelf
import Derived.Laws.BytesArg
set_option maxHeartbeats 3000000
set_option maxRecDepth 100000
namespace Go.Proofs.YtmiglhlbhbfodaaGreatDoor
section
open Go.RowKit Go.Maps Go.Sort Go.Shelf
theorem sorts_i(m:Nat):AnyZI.SortsIn Tryz.prog Tryz.sortedA_ren Fence.wide m:=
 ⟨fun blk off cap ss W hH hblk hsz=>callsIn_wide.2 (AnyM.slices_Sort_int Tryz.sortA blk off cap ss W hH hblk hsz),
  fun p cap W=>callsIn_wide.2 (AnyM.slices_Sort_int_none Tryz.sortA p cap W)⟩
theorem waits_keys(s:List Sec):keysBelow (waitF s) s.length=waitsOf s:=by
 unfold keysBelow waitsOf
 congr 1
 funext n
 exact waitF_some s n
theorem waits_sorted(s:List Sec):((waitsOf s).map fun n:Nat=>(n:Int)).mergeSort (fun x y=>decide (x≤y))=(waitsOf s).map fun n:Nat=>(n:Int):=by
 apply List.mergeSort_of_pairwise
 refine List.pairwise_map.2 ?_
 have:(waitsOf s).Pairwise (· < ·):=(List.pairwise_lt_range).filter _
 exact this.imp (fun h=>by simp;omega)
theorem sd_waits{w:World}{d bs cap m:Nat}{D:Dsk}(h:DiskIn w d bs cap m D):
 Calls Tryz.prog 47 #[.pointer (some ⟨d,0,none⟩)] w fun e w'=>∃v,e=.returned v∧OwnN w' w.heap.size 3 .i64 v (waitsOf D.s)∧Same w w':=by
 have few:=h.ok.few
 obtain⟨D0,hown,hperm⟩:=h.map.owns (P:=Tryz.prog) Tryz.underlying3 D.s.length (by unfold maxLen;omega) (fun n hn=>waitF_lt hn)
 have hbl:=h.map.lt
 have hsz:Maps.size D0≤D.s.length:=by
  obtain⟨es,clock,hb,F,hs,rfl⟩:=hown
  simp only[Maps.size,length_sorted]
  simpa using hs
 refine(callsIn_wide (n:=6)).1 ?_
 have hseq:SeqGives Fence.wide 2 Tryz.prog 131 #[.pointer (some ⟨w.heap.size,0,none⟩)] encZ (fun ss=>ss.Perm (intKeys D0)) (Maps.size D0) (w.alloc (.cells #[.map (some m)] 68)):=
  AnyZI.keys_gives (ρ:=Tryz.keysA_ren) {Tryz.keysA with} Fence.wide _ trivial rfl (by omega) w.heap.size m D.s.length D0 _ (by simp) (by simp) (by
   obtain⟨es,clock,hb,Ft,hs,hD⟩:=hown
   exact⟨es,clock,(Below.heap_alloc _ _ m hbl).trans hb,Ft,hs,hD⟩)
 have cK:∀mb W,CallsIn Fence.wide 5 Tryz.prog 84 #[.map mb] W fun e w'=>e=.returned (.func (.func 131) #[] #[.pointer (some ⟨W.heap.size,0,none⟩)])∧w'=W.alloc (.cells #[.map mb] 68):=fun mb W=>AnyZI.keys_in Tryz.keysA Fence.wide 5 trivial rfl mb W
 have cS:=AnyZI.sorted_in Tryz.sortedA Fence.wide 5 trivial trivial trivial trivial rfl (by omega) (sorts_i _) (enters_of Tryz.func130 (by kernel_rfl) rfl) 131 #[.pointer (some ⟨w.heap.size,0,none⟩)] trivial (enters_of Tryz.func131 (by kernel_rfl) rfl) _ _ (Nat.le_trans hsz (by unfold maxLen;omega)) (by omega) _ hseq
 change CallsIn _ _ Tryz.prog 83 _ _ _ at cS
 have hfK:Fence.wide.fn 84:=trivial
 have hfS:Fence.wide.fn 83:=trivial
 have p0:=h.ptr
 simp only[cellsD]at p0
 refine callsIn_of_wp Tryz.func47 rfl trivial ?_ rfl
 simp only[Tryz.ntmps47,List.size_toArray,List.length_cons,List.length_nil,Nat.reduceAdd,Nat.reduceSub,Array.replicate_succ,Array.replicate_zero,List.push_toArray,List.append_toArray,List.nil_append,List.cons_append]
 gi_wp2_with (first
  |(gi_at_call 84;refine(cK _ _).mono ?_;rintro e w' ⟨rfl,rfl⟩)
  |(gi_at_call 83;refine cS.mono ?_;rintro e w' ⟨v,ss,rfl,hS,hrow,hnil,hb⟩))
 go_ret
 have e1:ss.mergeSort (fun x y=>decide (x≤y))=(waitsOf D.s).map fun n:Nat=>(n:Int):=by
  rw[←waits_sorted,←waits_keys]
  exact mergeSort_of_perm_i (hS.trans hperm)
 have e2:ss.length=(waitsOf D.s).length:=by
  have:=congrArg List.length e1
  simpa using this
 refine⟨v,rfl,?_,((Kept.refl _ w).alloc _).trans (Kept.of_below hb)⟩
 rw[e1,e2,List.map_map]at hrow
 exact ownsRow_base hrow (by simp)
end
section
open Go.RowKit
theorem OwnN.far{w:World}{base:Nat}{e:TypeId}{k:IntKind}{a:Option Addr}{l c:Nat}{xs:List Nat}(h:OwnN w base e k (.slice a l c) xs):∀x,a=some x→base≤x.block:=by
 intro x hx
 subst hx
 exact(World.ownsRow.lt h x.block rfl).1
theorem take_succ_of{l:List Nat}{i n:Nat}(h:l[i]? =some n):l.take (i+1)=l.take i++[n]:=by
 rw[List.take_add_one,h];rfl
theorem set_waitF{s:List Sec}{n:Nat}(hn:n<s.length){y:Sec}(hy:y.waits=true)(j:Nat):(if j=n then some (.agg (secC y.has))else waitF s j)=waitF (s.set n y) j:=by
 unfold waitF waitsAt
 simp only[getD_set]
 by_cases e:j=n
 ·subst e;simp[hn,hy,secV,secC]
 ·simp[e]
theorem set_safe{s:List Sec}{n:Nat}(hn:n<s.length){y:Sec}(hy:y.safe=(s.getD n sec0).safe):(s.set n y).map (·.safe)=s.map (·.safe):=by
 rw[List.map_set]
 apply List.ext_getElem?
 intro i
 rw[List.getElem?_set]
 split
 ·rename_i e
  subst e
  simp[hn,hy]
 ·rfl
theorem DiskIn.upd{w w':World}{d bs cap m:Nat}{D:Dsk}(h:DiskIn w d bs cap m D){n:Nat}(hn:n<D.s.length){y:Sec}(hm:MapI w' m (fun j=>if j=n then some (.agg (secC y.has))else waitF D.s j))(k:Kept (fun j=>j=m) w w')(hy:y.OK)(hw:y.waits=true)(hs:y.safe=(D.s.getD n sec0).safe):
 DiskIn w' d bs cap m {D with s:=D.s.set n y}:=by
 refine⟨?_,(h.safe.kept k (fun q=>h.nm q.symm)).alike (set_safe hn hs),hm.congr (set_waitF hn hw),h.apart,h.nm,⟨set_ok h.ok.secs n hy,by simp[h.ok.few],h.ok.aft,h.ok.cal⟩,by simp[h.cap]⟩
 have:=h.box.kept k (fun q=>h.ne1 q.symm)
 simpa only[cellsD,List.length_set]using this
theorem pow_range{w:World}{X K:Nat}{x:Sec}(hx:x.OK)(hK:K≤256)(h:w.rangeAt X 0 (encB x.has))(ht:w.there X 0 256):(w.setCells X K (encB (x.safe.drop K))).rangeAt X 0 (encB (powOne x K).has):=by
 intro j v hv
 have hlen:(encB (x.safe.drop K)).length=256 - K:=by rw[encB_len,List.length_drop,hx.safeL]
 unfold powOne encB at hv
 rw[List.map_append]at hv
 have hl1:(List.map (fun x:Nat=>Value.int IntKind.u8 (x:Nat)) (x.has.take K)).length=K:=by rw[List.length_map,List.length_take,hx.hasL];omega
 by_cases hj:j<K
 ·rw[World.cell?_setCells_out _ _ _ _ _ (fun _ _=>.inl (by show 0+j<K;omega))]
  refine h j v ?_
  rw[List.getElem?_append_left (by rw[hl1];exact hj),List.map_take,List.getElem?_take,if_pos hj]at hv
  exact hv
 ·rw[List.getElem?_append_right (by rw[hl1];omega),hl1]at hv
  have hj2:j - K<(encB (x.safe.drop K)).length:=(List.getElem?_eq_some_iff.1 hv).1
  have:=World.cell?_setCells_in X (encB (x.safe.drop K)) K w (fun i hi=>by have:=(ht (K+i) (by omega)).1;rwa [Nat.zero_add]at this) (j - K) hj2
  rw[show 0+j=K+(j - K)from by omega,this,←hv]
  exact(List.getElem?_eq_getElem hj2).symm
theorem tmod_nat(q:Nat):(q:Int).tmod 4=((q % 4:Nat):Int):=by rw[Int.tmod_eq_emod_of_nonneg (by omega)];omega
theorem cp_eq{w:World}{X bs n K:Nat}{x:Sec}(hx:x.OK)(hK:K≤256)(hs:w.rangeAt bs (n*256) (encB x.safe))(ht:w.there X 0 256):
 (Builtin.copy_ #[32,32] 3 #[.slice (some ⟨X,K,none⟩) (256 - K) (256 - K),.slice (some ⟨bs,n*256+K,none⟩) (256 - K) (256 - K)]).run Tryz.prog w=.ok (goInt ((256 - K:Nat):Nat)) (w.setCells X K (encB (x.safe.drop K))):=by
 have hl:(encB (x.safe.drop K)).length=256 - K:=by rw[encB_len,List.length_drop,hx.safeL]
 have:=run_copy_cells (P:=Tryz.prog) w 32 32 3 5 X K (256 - K) (256 - K) ⟨bs,n*256+K,none⟩ (256 - K) (256 - K) (encB (x.safe.drop K)) Tryz.underlying32 (by kernel_rfl) (by rw[hl];exact(Nat.min_self _).symm)
  (fun j v hv=>by
   rw[Addr.add_mid,show n*256+K+j=n*256+(K+j)from by omega]
   refine hs (K+j) v ?_
   unfold encB at hv ⊢
   rw[List.map_drop,List.getElem?_drop]at hv
   exact hv)
  (fun j hj=>by have:=(ht (K+j) (by omega)).1;rwa [Nat.zero_add]at this)
  (fun j hj=>by have:=(ht (K+j) (by omega)).2;rwa [Nat.zero_add]at this)
  (encB_one _)
 rw[hl]at this
 exact this
theorem sd_power{w:World}{d bs cap m:Nat}{D:Dsk}(h:DiskIn w d bs cap m D)(a:Option Addr)(l c:Nat)(f:List Nat)(hl:l=f.length)(hc:l≤c)(hf:Bts f)(hat:NatsAt w .u8 a f):
 Calls Tryz.prog 17 #[.pointer (some ⟨d,0,none⟩),.slice a l c] w fun e w'=>e=.returned (.tuple #[])∧DiskIn w' d bs cap m (powerD D f)∧Kept (dod d bs m) w w':=by
 have H:=qh h
 have HF:=qh hf
 have k0:Same w (w.alloc (.cells #[.slice a l c] 32)):=(Kept.refl _ w).alloc _
 have FA:FatesAt (w.alloc (.cells #[.slice a l c] 32)) w.heap.size f:=⟨a,l,c,Blk.new w _ _,hl,hc,hat.same k0,nats_lt hat⟩
 have zz:(w.alloc (.cells #[.slice a l c] 32)).heap.size=w.heap.size+1:=by simp
 have FA:=qh FA;have K0:=qh k0;have ZZ:=qh zz
 have H1:=qh (H.out.same k0)
 have l1:=h.box.lt;have l2:=h.safe.lt;have l3:=h.map.lt
 clear hl hc hf hat k0 zz h
 go_enter Tryz.func17,Tryz.ntmps17
 go_wp2_with fail
 generalize w.alloc (.cells #[.slice a l c] 32)=w1 at*
 refine(sd_waits H1.out).mono ?_
 rintro e w2 ⟨v,rfl,how,k2⟩
 obtain⟨wa,wl,wc,rfl,hwl,hwn,hwat,hwc⟩:=how.rd
 have hfar:=how.far
 have H2:=qh (H1.out.same k2)
 have FA2:=qh (FA.out.same k2)
 have K2:=qh (K0.out.trans k2)
 have FAR:=qh hfar
 have SZ:=qh k2.size
 have wfew:wl≤4096:=by
  rw[hwl.out]
  refine Nat.le_trans (List.length_filter_le _ _) ?_
  rw[List.length_range];exact H.out.ok.few
 clear how hwn hwc hfar k2 FA H1 K0
 go_wp2_with fail
 go_loopw [15] (fun iv wr=>∃(i:Nat) (st:List Sec×List Nat),iv=.int .i64 (i:Nat)∧i≤wl∧st=((waitsOf D.s).take i).foldl powF (D.s,f)∧PowI D.s st∧DiskIn wr d bs cap m {D with s:=st.1}∧FatesAt wr w.heap.size st.2∧NatsAt wr .i64 wa (waitsOf D.s)∧Kept (dod d bs m) w wr) (fun iv _=>wl - (intOf iv).toNat)
 case atStart=>exact⟨0,(D.s,f),rfl,Nat.zero_le _,rfl,PowI.start H.out.ok.secs HF.out,H2.out,FA2.out,hwat.out,K2.out.mono (fun _ _ q=>q.elim)⟩
 case round=>
  clear FA2 H2 K2
  obtain⟨i,st,rfl,hi,hst,hpi,hdi,hfa,hna,hk⟩:=hrel
  have p0:=hdi.ptr
  simp only[cellsD]at p0
  by_cases hgo:i<wl
  ·obtain⟨gb,go,n,rfl,hgb,hxi,hcx⟩:=hna.at (i:=i) (by rw[←hwl.out];exact hgo)
   have hw0:=mem_waitsOf (List.mem_of_getElem? hxi)
   have hw1:waitsAt st.1 n=true:=by rw[hpi.waits];exact hw0
   have hnl:n<st.1.length:=waitsAt_lt hw1
   have hxs:=get_of hnl
   obtain⟨x,hx⟩:∃x,st.1.getD n sec0=x:=⟨_,rfl⟩
   rw[hx]at hxs
   have hxok:=hpi.ok x (List.mem_of_getElem? hxs)
   have hxw:x.waits=true:=by have:=hw1;unfold waitsAt at this;rw[hx]at this;exact this
   have hlk:=hdi.map.look (P:=Tryz.prog) Tryz.underlying68 Tryz.underlying3 n (zero_sec wr) false
   rw[waitF_at hxs,hxw,if_pos rfl]at hlk
   simp only[Option.getD_some,Bool.false_eq_true,if_false]at hlk
   have hsto:=put_new wr (secC_size hxok.hasL) (secC_one _)
   have kA:Same wr (wr.alloc (.cells (secC x.has) 90)):=(Kept.refl _ wr).alloc _
   have nA:=nats_new (w:=wr) (l:=x.has) (t:=90)
   have bA:=Blk.new wr (secC x.has) 90
   have DI:=qh (hdi.same kA)
   have FI:=qh (hfa.same kA)
   have ln:(i:Int)<(wl:Int):=by omega
   have ln0:(0:Int)≤(i:Int):=by omega
   have hbig:wr.heap.size>w.heap.size:=by obtain⟨_,_,_,q,_⟩:=hfa;exact q.lt
   have HK:=qh hk;have HPI:=qh hpi;have HXO:=qh hxok;have HST:=qh hst;have HX:=qh hx;have HXS:=qh hxs;have NA:=qh (hna.same kA);have HXI:=qh hxi;have HW1:=qh hw1;have HW0:=qh hw0;have XW:=qh hxw;have GB:=qh hgb;have NB:=qh nA;have BA:=qh bA;have KA:=qh kA
   clear hk hpi hxok hst hx hxs hna hxi hw0 hw1 hxw nA bA kA hdi hfa
   generalize hC:secC x.has=C at*
   have HC:=qh hC
   clear hC
   go_wp2_with(with_reducible refine wpList_storeRun hsto rfl _ _ rfl rfl rfl ?_)
   have tX:=(show(wr.alloc (.cells C 90)).there wr.heap.size 0 256 from fun j hj=>by
    refine⟨?_,BA.out.free _⟩
    rw[Nat.zero_add,cell_blk BA.out,←HC.out,Array.getElem?_eq_getElem (by rw[secC_size HXO.out.hasL];exact hj)]
    rfl)
   have TX:=qh tX
   have zX:(wr.alloc (.cells C 90)).heap.size=wr.heap.size+1:=by simp
   have ZX:=qh zX
   have rX:=qh (nats_range NB.out)
   have KB:=qh (HK.out.trans (KA.out.mono (fun _ _ q=>q.elim)))
   have NX:Hid (∀y,(some ⟨gb,go,none⟩:Option Addr)=some y→¬y.block=wr.heap.size):=fun y hy=>by cases hy;show¬gb=wr.heap.size;omega
   clear tX zX NB BA KA HK hlk hsto hcx hgb p0 hwat
   generalize wr.alloc (.cells C 90)=w3 at*
   generalize hXX:wr.heap.size=X at*
   clear hXX HC
   refine(fates_next FI.out HPI.out.fates).mono ?_
   rintro e w4 ⟨rfl,F4,k4⟩
   have hq:=(take1_bts HPI.out.fates).1
   have hB1:=(take1_bts HPI.out.fates).2
   obtain⟨q,hqq⟩:∃q,(take1 st.2).1=q:=⟨_,rfl⟩
   rw[hqq]at hq ⊢
   have QQ:=qh hqq
   have DI4:=qh (DI.out.kept k4 (by omega) (by omega) (by omega))
   have NA4:=qh (NatsAt.kept NA.out k4 (fun x hx=>by have:=FAR.out x hx;have:=ZZ.out;omega))
   have TX4:=qh (there_kept TX.out k4 (by have:=ZX.out;omega) (by omega))
   have RX4:=qh (rangeAt_kept rX.out k4 (by have:=ZX.out;omega) (by omega))
   have KB4:=qh k4
   have F4:=qh F4
   have Z4:=qh k4.size
   clear hqq k4 DI NA TX rX FI
   have ht:=tmod_nat q
   have h4:q % 4=0∨q % 4=1∨q % 4=2∨q % 4=3:=by omega
   rcases h4 with h4|h4|h4|h4
   ·rw[h4]at ht
    go_wp2_with fail
    have hcp:=cp_eq (w:=w4.drew) (X:=X) (bs:=bs) (n:=n) (K:=0) HXO.out (by omega) (DI4.out.safe.at_ n x HXS.out) TX4.out
    simp only[Nat.add_zero,Nat.sub_zero]at hcp
    have ko:keepOf st.2=(0,(take1 st.2).2):=by unfold keepOf;rw[QQ.out,if_neg (by omega),if_neg (by omega)]
    have KO:Hid ((keepOf st.2).1=0):=by rw[ko];exact qh rfl
    have KO2:Hid ((keepOf st.2).2=(take1 st.2).2):=by rw[ko];exact qh rfl
    clear ko ht
    have p00:w4.cell? ⟨d,0,none⟩=some (.slice (some ⟨bs,0,none⟩) st.1.length cap):=DI4.out.ptr 0
    have nn0:(0:Int)≤(n:Int):=by omega
    have nn1:(n:Int)<(st.1.length:Int):=by omega
    have k5:Kept (fun j=>j=X) w4 (w4.drew.setCells X (0) (encB (x.safe.drop (0)))):=(Kept.refl (fun j=>j=X) w4).drew.setCells (fun _=>rfl) _ _
    have q00:=(k5.cell (p:=⟨d,0,none⟩) (by have:=DI4.out.box.lt;exact this) (by show¬d=X;omega)).trans p00
    have r5:=pow_range (w:=w4.drew) HXO.out (K:=0) (by omega) RX4.out TX4.out
    obtain⟨ds,hds⟩:∃ds,encB (x.safe.drop (0))=ds:=⟨_,rfl⟩
    rw[hds]at k5 q00 r5 hcp
    have DI5:=qh (DI4.out.kept k5 (by omega) (by omega) (by omega))
    have F5:=qh (F4.out.new k5 (by omega))
    have NA5:=qh (NatsAt.kept NA4.out k5 (fun y hy=>by have:=NX.out y hy;omega))
    have K5:=qh ((KB.out.step KB4.out (fq:=fun j=>j=w.heap.size) (fun i hi q=>by omega)).step k5 (fq:=fun j=>j=X) (fun i hi q=>by omega))
    have R5:=qh r5
    go_region_held3 (fun w'=>w'.cell? ⟨d,0,none⟩=some (.slice (some ⟨bs,0,none⟩) st.1.length cap)) (first|exact p00|exact q00|go_keep_ranges) (fail)
    clear p00 q00 nn0 nn1 k5 r5 hcp hds
    generalize w4.drew.setCells X (0) ds=w5 at*
    have yok:=powOne_ok HXO.out (k:=0) (by omega) XW.out
    have YOK:=qh yok
    obtain⟨Y,hY⟩:∃Y,powOne x (0)=Y:=⟨_,rfl⟩
    rw[hY]at R5 YOK
    have hYw:Y.waits=true:=by rw[←hY];exact XW.out
    have hYs:Y.safe=x.safe:=by rw[←hY];rfl
    obtain⟨w6,hup,hm6,hk6,hz6⟩:=(show MapI w5.drew m (waitF st.1)from DI5.out.map).store (P:=Tryz.prog) Tryz.underlying68 Tryz.underlying3 n (.agg (secC Y.has))
    have k6:Kept (fun j=>j=m) w5 w6:=⟨hk6.os,hk6.tape,hk6.output,hk6.size,hk6.block⟩
    have DI6:=qh (DI5.out.upd hnl hm6 k6 YOK.out hYw (by rw[hYs,HX.out]))
    have hYl:=YOK.out.hasL
    obtain⟨cs,hcs⟩:∃cs,encB Y.has=cs:=⟨_,rfl⟩
    have hsec:secC Y.has=cs.toArray:=by unfold secC;rw[hcs]
    have r5:=R5.out
    rw[hcs]at r5
    rw[hsec]at hup
    have hl:cs.length=256:=by rw[←hcs,encB_len,hYl]
    have hi2:(Tryz.prog.info? 90).map (·.size)=some cs.length:=by rw[hl];kernel_rfl
    have hu:=Tryz.underlying90
    have p01:w5.cell? ⟨d,1,none⟩=some (.map (some m)):=DI5.out.ptr 1
    have q01:=(k6.cell (p:=⟨d,1,none⟩) (by have:=DI5.out.box.lt;exact this) (fun q=>H.out.ne1 q.symm)).trans p01
    have hXm:¬X=m:=by omega
    have r6:=rangeAt_kept r5 k6 (World.block_lt_of_cell? w5 _ (r5 0 _ (List.getElem?_eq_getElem (by omega)))) hXm
    have F6:=qh (F5.out.map DI5.out.map k6)
    have NA6:=qh (NatsAt.kept' NA5.out k6 (nats_ne_map NA5.out DI5.out.map))
    have K6:=qh (K5.out.step k6 (fq:=fun j=>j=m) (fun i hi q=>.inr (.inr q)))
    have HYY:=qh hY
    clear hm6 hk6 hz6 k6 hY hYw hYs hYl hcs hsec hXm yok
    go_wp2_with fail
    go_region_held3 (fun w'=>w'.cell? ⟨d,1,none⟩=some (.map (some m))∧w'.rangeAt X 0 cs) (first|exact⟨p01,r5⟩|exact⟨q01,r6⟩|go_keep_ranges) (fail)
    go_wp2_with fail
    go_roundw
    case rel=>
     refine⟨i+1,powF st n,by go_num,by omega,?_,HPI.out.step HW0.out,?_,?_,NA6.out,K6.out⟩
     ·rw[take_succ_of HXI.out,List.foldl_append,←HST.out];rfl
     ·have e1:(powF st n).1=st.1.set n Y:=by
       show st.1.set n (powOne (st.1.getD n sec0) (keepOf st.2).1)=_
       rw[HX.out,KO.out,HYY.out]
      rw[e1];exact DI6.out
     ·have e2:(powF st n).2=(keepOf st.2).2:=rfl
      rw[e2,KO2.out];exact F6.out
    case measure=>simp[intOf];omega
   ·rw[h4]at ht
    go_wp2_with fail
    have hcp:=cp_eq (w:=w4.drew) (X:=X) (bs:=bs) (n:=n) (K:=0) HXO.out (by omega) (DI4.out.safe.at_ n x HXS.out) TX4.out
    simp only[Nat.add_zero,Nat.sub_zero]at hcp
    have ko:keepOf st.2=(0,(take1 st.2).2):=by unfold keepOf;rw[QQ.out,if_neg (by omega),if_neg (by omega)]
    have KO:Hid ((keepOf st.2).1=0):=by rw[ko];exact qh rfl
    have KO2:Hid ((keepOf st.2).2=(take1 st.2).2):=by rw[ko];exact qh rfl
    clear ko ht
    have p00:w4.cell? ⟨d,0,none⟩=some (.slice (some ⟨bs,0,none⟩) st.1.length cap):=DI4.out.ptr 0
    have nn0:(0:Int)≤(n:Int):=by omega
    have nn1:(n:Int)<(st.1.length:Int):=by omega
    have k5:Kept (fun j=>j=X) w4 (w4.drew.setCells X (0) (encB (x.safe.drop (0)))):=(Kept.refl (fun j=>j=X) w4).drew.setCells (fun _=>rfl) _ _
    have q00:=(k5.cell (p:=⟨d,0,none⟩) (by have:=DI4.out.box.lt;exact this) (by show¬d=X;omega)).trans p00
    have r5:=pow_range (w:=w4.drew) HXO.out (K:=0) (by omega) RX4.out TX4.out
    obtain⟨ds,hds⟩:∃ds,encB (x.safe.drop (0))=ds:=⟨_,rfl⟩
    rw[hds]at k5 q00 r5 hcp
    have DI5:=qh (DI4.out.kept k5 (by omega) (by omega) (by omega))
    have F5:=qh (F4.out.new k5 (by omega))
    have NA5:=qh (NatsAt.kept NA4.out k5 (fun y hy=>by have:=NX.out y hy;omega))
    have K5:=qh ((KB.out.step KB4.out (fq:=fun j=>j=w.heap.size) (fun i hi q=>by omega)).step k5 (fq:=fun j=>j=X) (fun i hi q=>by omega))
    have R5:=qh r5
    go_region_held3 (fun w'=>w'.cell? ⟨d,0,none⟩=some (.slice (some ⟨bs,0,none⟩) st.1.length cap)) (first|exact p00|exact q00|go_keep_ranges) (fail)
    clear p00 q00 nn0 nn1 k5 r5 hcp hds
    generalize w4.drew.setCells X (0) ds=w5 at*
    have yok:=powOne_ok HXO.out (k:=0) (by omega) XW.out
    have YOK:=qh yok
    obtain⟨Y,hY⟩:∃Y,powOne x (0)=Y:=⟨_,rfl⟩
    rw[hY]at R5 YOK
    have hYw:Y.waits=true:=by rw[←hY];exact XW.out
    have hYs:Y.safe=x.safe:=by rw[←hY];rfl
    obtain⟨w6,hup,hm6,hk6,hz6⟩:=(show MapI w5.drew m (waitF st.1)from DI5.out.map).store (P:=Tryz.prog) Tryz.underlying68 Tryz.underlying3 n (.agg (secC Y.has))
    have k6:Kept (fun j=>j=m) w5 w6:=⟨hk6.os,hk6.tape,hk6.output,hk6.size,hk6.block⟩
    have DI6:=qh (DI5.out.upd hnl hm6 k6 YOK.out hYw (by rw[hYs,HX.out]))
    have hYl:=YOK.out.hasL
    obtain⟨cs,hcs⟩:∃cs,encB Y.has=cs:=⟨_,rfl⟩
    have hsec:secC Y.has=cs.toArray:=by unfold secC;rw[hcs]
    have r5:=R5.out
    rw[hcs]at r5
    rw[hsec]at hup
    have hl:cs.length=256:=by rw[←hcs,encB_len,hYl]
    have hi2:(Tryz.prog.info? 90).map (·.size)=some cs.length:=by rw[hl];kernel_rfl
    have hu:=Tryz.underlying90
    have p01:w5.cell? ⟨d,1,none⟩=some (.map (some m)):=DI5.out.ptr 1
    have q01:=(k6.cell (p:=⟨d,1,none⟩) (by have:=DI5.out.box.lt;exact this) (fun q=>H.out.ne1 q.symm)).trans p01
    have hXm:¬X=m:=by omega
    have r6:=rangeAt_kept r5 k6 (World.block_lt_of_cell? w5 _ (r5 0 _ (List.getElem?_eq_getElem (by omega)))) hXm
    have F6:=qh (F5.out.map DI5.out.map k6)
    have NA6:=qh (NatsAt.kept' NA5.out k6 (nats_ne_map NA5.out DI5.out.map))
    have K6:=qh (K5.out.step k6 (fq:=fun j=>j=m) (fun i hi q=>.inr (.inr q)))
    have HYY:=qh hY
    clear hm6 hk6 hz6 k6 hY hYw hYs hYl hcs hsec hXm yok
    go_wp2_with fail
    go_region_held3 (fun w'=>w'.cell? ⟨d,1,none⟩=some (.map (some m))∧w'.rangeAt X 0 cs) (first|exact⟨p01,r5⟩|exact⟨q01,r6⟩|go_keep_ranges) (fail)
    go_wp2_with fail
    go_roundw
    case rel=>
     refine⟨i+1,powF st n,by go_num,by omega,?_,HPI.out.step HW0.out,?_,?_,NA6.out,K6.out⟩
     ·rw[take_succ_of HXI.out,List.foldl_append,←HST.out];rfl
     ·have e1:(powF st n).1=st.1.set n Y:=by
       show st.1.set n (powOne (st.1.getD n sec0) (keepOf st.2).1)=_
       rw[HX.out,KO.out,HYY.out]
      rw[e1];exact DI6.out
     ·have e2:(powF st n).2=(keepOf st.2).2:=rfl
      rw[e2,KO2.out];exact F6.out
    case measure=>simp[intOf];omega
   ·rw[h4]at ht
    go_wp2_with fail
    have hcp:=fun(p1 p2:Option Addr)=>run_copy_none (P:=Tryz.prog) w4.drew 32 32 3 5 p1 p2 0 0 0 0 Tryz.underlying32 (by kernel_rfl) rfl
    have ko:keepOf st.2=(256,(take1 st.2).2):=by unfold keepOf;rw[QQ.out,if_pos (by omega)]
    have KO:Hid ((keepOf st.2).1=256):=by rw[ko];exact qh rfl
    have KO2:Hid ((keepOf st.2).2=(take1 st.2).2):=by rw[ko];exact qh rfl
    clear ko ht
    have eW:w4.drew.setCells X 256 (encB (x.safe.drop 256))=w4.drew:=by
     rw[List.drop_eq_nil_of_le (by rw[HXO.out.safeL];exact Nat.le_refl _)];rfl
    have p00:w4.cell? ⟨d,0,none⟩=some (.slice (some ⟨bs,0,none⟩) st.1.length cap):=DI4.out.ptr 0
    have nn0:(0:Int)≤(n:Int):=by omega
    have nn1:(n:Int)<(st.1.length:Int):=by omega
    have k5:Same w4 w4.drew:=(Kept.refl _ w4).drew
    have r5:=pow_range (w:=w4.drew) HXO.out (K:=256) (by omega) RX4.out TX4.out
    rw[eW]at r5
    have DI5:=qh (DI4.out.same k5)
    have F5:=qh (F4.out.same k5)
    have NA5:=qh (NA4.out.same k5)
    have K5:=qh ((KB.out.step KB4.out (fq:=fun j=>j=w.heap.size) (fun i hi q=>by omega)).step k5 (fq:=fun _=>False) (fun i hi q=>q.elim))
    have R5:=qh r5
    go_region_held3 (fun w'=>w'.cell? ⟨d,0,none⟩=some (.slice (some ⟨bs,0,none⟩) st.1.length cap)) (first|exact p00|go_keep_ranges) (fail)
    clear p00 nn0 nn1 k5 r5 hcp eW
    generalize w4.drew=w5 at*
    have yok:=powOne_ok HXO.out (k:=256) (by omega) XW.out
    have YOK:=qh yok
    obtain⟨Y,hY⟩:∃Y,powOne x (256)=Y:=⟨_,rfl⟩
    rw[hY]at R5 YOK
    have hYw:Y.waits=true:=by rw[←hY];exact XW.out
    have hYs:Y.safe=x.safe:=by rw[←hY];rfl
    obtain⟨w6,hup,hm6,hk6,hz6⟩:=(show MapI w5.drew m (waitF st.1)from DI5.out.map).store (P:=Tryz.prog) Tryz.underlying68 Tryz.underlying3 n (.agg (secC Y.has))
    have k6:Kept (fun j=>j=m) w5 w6:=⟨hk6.os,hk6.tape,hk6.output,hk6.size,hk6.block⟩
    have DI6:=qh (DI5.out.upd hnl hm6 k6 YOK.out hYw (by rw[hYs,HX.out]))
    have hYl:=YOK.out.hasL
    obtain⟨cs,hcs⟩:∃cs,encB Y.has=cs:=⟨_,rfl⟩
    have hsec:secC Y.has=cs.toArray:=by unfold secC;rw[hcs]
    have r5:=R5.out
    rw[hcs]at r5
    rw[hsec]at hup
    have hl:cs.length=256:=by rw[←hcs,encB_len,hYl]
    have hi2:(Tryz.prog.info? 90).map (·.size)=some cs.length:=by rw[hl];kernel_rfl
    have hu:=Tryz.underlying90
    have p01:w5.cell? ⟨d,1,none⟩=some (.map (some m)):=DI5.out.ptr 1
    have q01:=(k6.cell (p:=⟨d,1,none⟩) (by have:=DI5.out.box.lt;exact this) (fun q=>H.out.ne1 q.symm)).trans p01
    have hXm:¬X=m:=by omega
    have r6:=rangeAt_kept r5 k6 (World.block_lt_of_cell? w5 _ (r5 0 _ (List.getElem?_eq_getElem (by omega)))) hXm
    have F6:=qh (F5.out.map DI5.out.map k6)
    have NA6:=qh (NatsAt.kept' NA5.out k6 (nats_ne_map NA5.out DI5.out.map))
    have K6:=qh (K5.out.step k6 (fq:=fun j=>j=m) (fun i hi q=>.inr (.inr q)))
    have HYY:=qh hY
    clear hm6 hk6 hz6 k6 hY hYw hYs hYl hcs hsec hXm yok
    go_wp2_with fail
    go_region_held3 (fun w'=>w'.cell? ⟨d,1,none⟩=some (.map (some m))∧w'.rangeAt X 0 cs) (first|exact⟨p01,r5⟩|exact⟨q01,r6⟩|go_keep_ranges) (fail)
    go_wp2_with fail
    go_roundw
    case rel=>
     refine⟨i+1,powF st n,by go_num,by omega,?_,HPI.out.step HW0.out,?_,?_,NA6.out,K6.out⟩
     ·rw[take_succ_of HXI.out,List.foldl_append,←HST.out];rfl
     ·have e1:(powF st n).1=st.1.set n Y:=by
       show st.1.set n (powOne (st.1.getD n sec0) (keepOf st.2).1)=_
       rw[HX.out,KO.out,HYY.out]
      rw[e1];exact DI6.out
     ·have e2:(powF st n).2=(keepOf st.2).2:=rfl
      rw[e2,KO2.out];exact F6.out
    case measure=>simp[intOf];omega
   ·rw[h4]at ht
    go_wp2_with fail
    refine(fates_next F4.out hB1).mono ?_
    rintro e w6 ⟨rfl,F6,k6⟩
    have hK:=(take1_bts hB1).1
    obtain⟨K,hKK⟩:∃K,(take1 (take1 st.2).2).1=K:=⟨_,rfl⟩
    rw[hKK]at hK ⊢
    have DI6:=qh (DI4.out.kept k6 (by omega) (by omega) (by omega))
    have NA6:=qh (NatsAt.kept NA4.out k6 (fun x hx=>by have:=FAR.out x hx;have:=ZZ.out;omega))
    have TX6:=qh (there_kept TX4.out k6 (by have:=ZX.out;have:=Z4.out;omega) (by omega))
    have RX6:=qh (rangeAt_kept RX4.out k6 (by have:=ZX.out;have:=Z4.out;omega) (by omega))
    have KB6:=qh (KB4.out.trans k6)
    have F6:=qh F6
    clear k6 DI4 NA4 TX4 RX4 KB4 F4 ht Z4
    have DI4:=DI6;have NA4:=NA6;have TX4:=TX6;have RX4:=RX6;have KB4:=KB6;have F4:=F6
    clear DI6 NA6 TX6 RX6 KB6 F6
    generalize w6=w4 at*
    have hcp:=cp_eq (w:=w4.drew) (X:=X) (bs:=bs) (n:=n) (K:=K) HXO.out (by omega) (DI4.out.safe.at_ n x HXS.out) TX4.out
    have ko:keepOf st.2=take1 (take1 st.2).2:=by unfold keepOf;rw[QQ.out,if_neg (by omega),if_pos (by omega)]
    have KO:Hid ((keepOf st.2).1=K):=by rw[ko];exact qh hKK
    have KO2:Hid ((keepOf st.2).2=(take1 (take1 st.2).2).2):=by rw[ko];exact qh rfl
    clear ko hKK
    have hk1:(K:Int)≤256:=by omega
    have hk0:(0:Int)≤(K:Int):=by omega
    have hk2:¬(256 - K=0):=by omega
    go_wp2_with fail
    have p00:w4.cell? ⟨d,0,none⟩=some (.slice (some ⟨bs,0,none⟩) st.1.length cap):=DI4.out.ptr 0
    have nn0:(0:Int)≤(n:Int):=by omega
    have nn1:(n:Int)<(st.1.length:Int):=by omega
    have k5:Kept (fun j=>j=X) w4 (w4.drew.setCells X (K) (encB (x.safe.drop (K)))):=(Kept.refl (fun j=>j=X) w4).drew.setCells (fun _=>rfl) _ _
    have q00:=(k5.cell (p:=⟨d,0,none⟩) (by have:=DI4.out.box.lt;exact this) (by show¬d=X;omega)).trans p00
    have r5:=pow_range (w:=w4.drew) HXO.out (K:=K) (by omega) RX4.out TX4.out
    obtain⟨ds,hds⟩:∃ds,encB (x.safe.drop (K))=ds:=⟨_,rfl⟩
    rw[hds]at k5 q00 r5 hcp
    have DI5:=qh (DI4.out.kept k5 (by omega) (by omega) (by omega))
    have F5:=qh (F4.out.new k5 (by omega))
    have NA5:=qh (NatsAt.kept NA4.out k5 (fun y hy=>by have:=NX.out y hy;omega))
    have K5:=qh ((KB.out.step KB4.out (fq:=fun j=>j=w.heap.size) (fun i hi q=>by omega)).step k5 (fq:=fun j=>j=X) (fun i hi q=>by omega))
    have R5:=qh r5
    go_region_held3 (fun w'=>w'.cell? ⟨d,0,none⟩=some (.slice (some ⟨bs,0,none⟩) st.1.length cap)) (first|exact p00|exact q00|go_keep_ranges) (fail)
    clear p00 q00 nn0 nn1 k5 r5 hcp hds
    generalize w4.drew.setCells X (K) ds=w5 at*
    have yok:=powOne_ok HXO.out (k:=K) (by omega) XW.out
    have YOK:=qh yok
    obtain⟨Y,hY⟩:∃Y,powOne x (K)=Y:=⟨_,rfl⟩
    rw[hY]at R5 YOK
    have hYw:Y.waits=true:=by rw[←hY];exact XW.out
    have hYs:Y.safe=x.safe:=by rw[←hY];rfl
    obtain⟨w6,hup,hm6,hk6,hz6⟩:=(show MapI w5.drew m (waitF st.1)from DI5.out.map).store (P:=Tryz.prog) Tryz.underlying68 Tryz.underlying3 n (.agg (secC Y.has))
    have k6:Kept (fun j=>j=m) w5 w6:=⟨hk6.os,hk6.tape,hk6.output,hk6.size,hk6.block⟩
    have DI6:=qh (DI5.out.upd hnl hm6 k6 YOK.out hYw (by rw[hYs,HX.out]))
    have hYl:=YOK.out.hasL
    obtain⟨cs,hcs⟩:∃cs,encB Y.has=cs:=⟨_,rfl⟩
    have hsec:secC Y.has=cs.toArray:=by unfold secC;rw[hcs]
    have r5:=R5.out
    rw[hcs]at r5
    rw[hsec]at hup
    have hl:cs.length=256:=by rw[←hcs,encB_len,hYl]
    have hi2:(Tryz.prog.info? 90).map (·.size)=some cs.length:=by rw[hl];kernel_rfl
    have hu:=Tryz.underlying90
    have p01:w5.cell? ⟨d,1,none⟩=some (.map (some m)):=DI5.out.ptr 1
    have q01:=(k6.cell (p:=⟨d,1,none⟩) (by have:=DI5.out.box.lt;exact this) (fun q=>H.out.ne1 q.symm)).trans p01
    have hXm:¬X=m:=by omega
    have r6:=rangeAt_kept r5 k6 (World.block_lt_of_cell? w5 _ (r5 0 _ (List.getElem?_eq_getElem (by omega)))) hXm
    have F6:=qh (F5.out.map DI5.out.map k6)
    have NA6:=qh (NatsAt.kept' NA5.out k6 (nats_ne_map NA5.out DI5.out.map))
    have K6:=qh (K5.out.step k6 (fq:=fun j=>j=m) (fun i hi q=>.inr (.inr q)))
    have HYY:=qh hY
    clear hm6 hk6 hz6 k6 hY hYw hYs hYl hcs hsec hXm yok
    go_wp2_with fail
    go_region_held3 (fun w'=>w'.cell? ⟨d,1,none⟩=some (.map (some m))∧w'.rangeAt X 0 cs) (first|exact⟨p01,r5⟩|exact⟨q01,r6⟩|go_keep_ranges) (fail)
    go_wp2_with fail
    go_roundw
    case rel=>
     refine⟨i+1,powF st n,by go_num,by omega,?_,HPI.out.step HW0.out,?_,?_,NA6.out,K6.out⟩
     ·rw[take_succ_of HXI.out,List.foldl_append,←HST.out];rfl
     ·have e1:(powF st n).1=st.1.set n Y:=by
       show st.1.set n (powOne (st.1.getD n sec0) (keepOf st.2).1)=_
       rw[HX.out,KO.out,HYY.out]
      rw[e1];exact DI6.out
     ·have e2:(powF st n).2=(keepOf st.2).2:=rfl
      rw[e2,KO2.out];exact F6.out
    case measure=>simp[intOf];omega
  ·have hend:i=wl:=by omega
   subst hend
   have hst2:st=(waitsOf D.s).foldl powF (D.s,f):=by rw[hst,hwl.out,List.take_length]
   have DI:=qh hdi;have HK:=qh hk;have HPI:=qh hpi;have HST:=qh hst2
   have SE:=qh (sd_settle hdi)
   clear hst hdi hfa hna hk hpi hst2 hwat p0
   go_wp2_with fail
   refine SE.out.mono ?_
   rintro e w5 ⟨rfl,h5,k5⟩
   have p5:=h5.ptr
   have f5:=h5.box.free
   simp only[cellsD]at p5
   have H5:=qh h5
   have K5:=qh k5
   clear h5 k5 SE
   go_wp2_with fail
   go_end0
   have k6:=((Kept.refl (fun j=>j=d) w5).setG 2 (.bool false)).setG 5 (.bool false)|>.setG 4 (.int .i64 (-1))
   have e1:powerD D f=⟨settle st.1,false,D.calls, -1,false⟩:=by unfold powerD powS;rw[HST.out]
   rw[e1]
   refine⟨rfl,⟨((H5.out.box.set 2 _).set 5 _).set 4 _,H5.out.safe.kept k6 (fun q=>H.out.apart q.symm),H5.out.map.kept k6 (fun q=>H.out.ne1 q),H.out.apart,H.out.nm,⟨H5.out.ok.secs,H5.out.ok.few,by dsimp only;omega,H5.out.ok.cal⟩,H5.out.cap⟩,(HK.out.trans K5.out).trans (k6.mono (fun _ _ q=>.inl q))⟩
end
section
open Go.RowKit
def fullL(c:Nat):List Nat:=List.replicate 256 c
theorem fullL_len(c:Nat):(fullL c).length=256:=List.length_replicate
theorem fullL_bts{c:Nat}(h:c<256):Bts (fullL c):=fun x hx=>by rw[List.eq_of_mem_replicate hx];exact h
def partL(c i:Nat):List Nat:=List.replicate i c++List.replicate (256 - i) 0
theorem partL_len{c i:Nat}(h:i≤256):(partL c i).length=256:=by simp[partL];omega
theorem partL_set{c i:Nat}(h:i<256):(partL c i).set i c=partL c (i+1):=by
 unfold partL
 rw[List.set_append_right _ _ (by simp),List.length_replicate,Nat.sub_self]
 rw[show 256 - i=(256 - (i+1))+1 from by omega,List.replicate_succ,List.set_cons_zero,List.replicate_succ']
 simp
theorem partL_end(c:Nat):partL c 256=fullL c:=by unfold partL fullL;rw[Nat.sub_self,List.replicate_zero,List.append_nil]
theorem partL_start(c:Nat):partL c 0=List.replicate 256 0:=by unfold partL;rw[Nat.sub_zero,List.replicate_zero,List.nil_append]
theorem full_any(c:Nat)(w:World):
 Calls Tryz.prog 112 #[.int .u8 (c:Nat)] w fun e w'=>∃g,e=.returned (.slice (some ⟨g,0,none⟩) 256 256)∧OwnN w' w.heap.size 5 .u8 (.slice (some ⟨g,0,none⟩) 256 256) (fullL c)∧Same w w':=by
 obtain⟨i0,hi,hz0,hz1,hz2⟩:=info_parts (P:=Tryz.prog) (e:=5) (z:=.int .u8 0) (size:=1) (bytes:=1) (by kernel_rfl)
 obtain⟨w1,hrun,hown,hgr⟩:=run_make_full (P:=Tryz.prog) w w.heap.size 32 5 i0 (.int .u8 0) 1 Tryz.underlying32 hi hz0 hz1 .i64 .i64 256 (by rw[hz2];decide) (by decide) (Nat.le_refl _)
 have hown:=OwnN.made hown
 have hmk:(Instr.makeSlice 32 (.int .i64 256) (.int .i64 256)).run Tryz.prog w=.ok (.slice (some ⟨w.heap.size,0,none⟩) 256 256) w1:=hrun
 have K1:Same w w1:=⟨hgr.os,hgr.tape,hgr.output,hgr.size,fun k hk _=>hgr.block k hk (by simp)⟩
 have K1:=qh K1
 rw[←partL_start c]at hown
 have OW:=qh hown
 clear hrun hgr hown hi hz0 hz1 hz2
 go_enter Tryz.func112,Tryz.ntmps112
 go_wp2_with fail
 go_loopw [4] (fun iv wr=>∃i:Nat,iv=.int .i64 (i:Nat)∧i≤256∧OwnN wr w.heap.size 5 .u8 (.slice (some ⟨w.heap.size,0,none⟩) 256 256) (partL c i)∧Kept (fun _=>False) w wr) (fun iv _=>256 - (intOf iv).toNat)
 case atStart=>exact⟨0,rfl,by omega,OW.out,K1.out⟩
 case round=>
  clear K1 OW
  obtain⟨i,rfl,hi,how,hk⟩:=hrel
  have OW:=qh how;have HK:=qh hk
  by_cases hgo:i<256
  ·have h1:(i:Int)<256:=by omega
   have hc:=how.cell (partL_len hi) (j:=i) (x:=(partL c i)[i]'(by rw[partL_len hi];exact hgo)) (List.getElem?_eq_getElem _)
   have hf:wr.frozen? ⟨w.heap.size,i,none⟩=false:=by
    rcases how.2 with⟨h,_⟩|⟨g,cap,cur,h,_,hb,_⟩
    ·cases h
    ·simp only[Value.slice.injEq,Option.some.injEq,Addr.mk.injEq]at h
     rw[h.1.1];exact Blk.free hb i
   clear how hk
   go_wp2_with fail
   go_roundw
   case rel=>
    refine⟨i+1,by go_num,by omega,?_,HK.out.setNew (Nat.le_refl _) _⟩
    have:=OW.out.set (partL_len hi) i c
    rw[partL_set hgo]at this
    exact this
   case measure=>simp[intOf];omega
  ·have e:i=256:=by omega
   subst e
   clear how hk
   go_wp2_with fail
   go_ret
   have:=OW.out
   rw[partL_end]at this
   exact⟨_,rfl,this,HK.out⟩
def Live(D:Dsk):Prop:=D.off=false∧D.after= -1
theorem write_live{D:Dsk}(h:Live D){n:Nat}(hn:n<D.s.length){b:List Nat}(hb:b.length=256):writeD D (n:Nat) b=(⟨putS D.s n b,false,wrap64 (D.calls+1), -1,D.done⟩,0):=by
 have e:errD D (n:Nat)=0:=by unfold errD;rw[h.1];simp;omega
 unfold writeD callD
 rw[if_pos e,if_pos hb,h.2,Int.toNat_natCast]
 simp
theorem sync_live{D:Dsk}(h:Live D):syncD D=(⟨settle D.s,false,wrap64 (D.calls+1), -1,D.done⟩,0):=by
 unfold syncD callD
 rw[h.1,h.2]
 simp
theorem read_live{D:Dsk}(h:D.off=false){n:Nat}(hn:n<D.s.length):readD D (n:Nat)=((D.s.getD n sec0).has,0):=by
 have e:errD D (n:Nat)=0:=by unfold errD;rw[h];simp;omega
 unfold readD
 rw[if_pos e,Int.toNat_natCast]
theorem Kept.own{w a b:World}{d bs m:Nat}(h:Kept (fun _=>False) w a)(k:Kept (dod d bs m) a b)(h1:w.heap.size≤d)(h2:w.heap.size≤bs)(h3:w.heap.size≤m):Same w b:=
 h.step k (fun i hi q=>by rcases q with q|q|q<;>omega)
end
section
open Go.RowKit Go.Shelf
end
section
open Go.RowKit
def strN(xs:List Nat):ByteArray:=⟨(xs.map UInt8.ofNat).toArray⟩
theorem strN_ints(xs:List Nat):strOfNums (xs.map fun n:Nat=>(n:Int))=strN xs:=by
 unfold strOfNums strN
 rw[List.map_map]
 congr 2
theorem nats_cells{w:World}{k:IntKind}{b off:Nat}{xs:List Nat}(h:NatsAt w k (some ⟨b,off,none⟩) xs)(i:Nat)(hi:i<xs.length):w.cell? ⟨b,off+i,none⟩=some (.int k ((xs.map fun n:Nat=>(n:Int)).getD i 0)):=by
 rcases h with rfl|⟨b',off',e,_,hc⟩
 ·simp at hi
 ·simp only[Option.some.injEq,Addr.mk.injEq,and_true]at e
  obtain⟨rfl,rfl⟩:=e
  have:=hc i _ (List.getElem?_eq_getElem hi)
  have e2:(xs.map fun n:Nat=>(n:Int)).getD i 0=((xs[i]:Nat):Int):=by simp[hi]
  rw[e2];exact this
theorem conv_str(a:Option Addr)(l c:Nat)(xs:List Nat)(w:World)(hl:l=xs.length)(h:NatsAt w .u8 a xs):(convert 32 9 (.slice a l c)).run Tryz.prog w=.ok (.string (strN xs)) w:=by
 subst hl
 by_cases h0:xs=[]
 ·subst h0
  rw[run_convert_bytes_string w _ _ _ _ _ _ Tryz.underlying32 Tryz.underlying5 Tryz.underlying9]
  cases a<;>simp[Conv.bytesToString,strN,loadCells,loadCellsFrom]<;>rfl
 ·rcases h with h|⟨b,off,rfl,hb,hc⟩
  ·exact absurd h h0
  ·rw[←strN_ints]
   exact run_convert_bytes_arg w _ _ Tryz.underlying32 Tryz.underlying5 b off _ c _ (by simp) (fun i hi=>nats_cells (.inr ⟨b,off,rfl,hb,hc⟩) i hi) _ Tryz.underlying9
end
section
open Go.RowKit
theorem settle_getD(s:List Sec)(n:Nat):(settle s).getD n sec0=settleS (s.getD n sec0):=by
 unfold settle
 rw[List.getD_eq_getElem?_getD,List.getD_eq_getElem?_getD,List.getElem?_map]
 cases s[n]? <;>rfl
theorem settle_waits(s:List Sec):waitsOf (settle s)=[]:=by
 unfold waitsOf
 rw[List.filter_eq_nil_iff]
 intro n _
 unfold waitsAt
 rw[settle_getD]
 simp[settleS]
theorem fold_at(l:List Nat):∀st:List Sec×List Nat,Bts st.2→l.Nodup→(∀m∈l,m<st.1.length)→∀n,
 (n∉l→(l.foldl powF st).1.getD n sec0=st.1.getD n sec0)∧(n∈l→∃k,k≤256∧(l.foldl powF st).1.getD n sec0=powOne (st.1.getD n sec0) k):=by
 induction l with
 |nil=>intro st _ _ _ n;exact⟨fun _=>rfl,fun h=>by cases h⟩
 |cons a l ih=>
  intro st hf hn hl n
  have hk:=keepOf_le hf
  obtain⟨h1,h2⟩:=List.nodup_cons.1 hn
  have IH:=ih (powF st a) hk.2 h2 (fun m hm=>by rw[powF_len];exact hl m (by simp[hm])) n
  rw[List.foldl_cons]
  have ha:=hl a (by simp)
  by_cases e:n=a
  ·subst e
   refine⟨fun h=>absurd (List.mem_cons_self) h,fun _=>⟨(keepOf st.2).1,hk.1,?_⟩⟩
   rw[IH.1 h1]
   show(st.1.set n _).getD n sec0=_
   rw[getD_set,if_pos ⟨rfl,ha⟩]
  ·have e1:(powF st a).1.getD n sec0=st.1.getD n sec0:=by
    show(st.1.set a _).getD n sec0=_
    rw[getD_set,if_neg (fun q=>e q.1)]
   rw[e1]at IH
   exact⟨fun h=>IH.1 (fun q=>h (List.mem_cons_of_mem _ q)),fun h=>IH.2 (by rcases List.mem_cons.1 h with q|q;exact absurd q e;exact q)⟩
theorem waitsOf_nodup(s:List Sec):(waitsOf s).Nodup:=(List.nodup_range).filter _
theorem mem_waitsOf'{s:List Sec}{n:Nat}:n∈waitsOf s↔waitsAt s n=true:=by
 unfold waitsOf
 rw[List.mem_filter,List.mem_range]
 exact⟨fun h=>h.2,fun h=>⟨waitsAt_lt h,h⟩⟩
theorem powS_at{s:List Sec}{f:List Nat}(hf:Bts f)(n:Nat):
 (waitsAt s n=false→((powS s f).getD n sec0).has=(s.getD n sec0).has)∧(waitsAt s n=true→∃k,k≤256∧((powS s f).getD n sec0).has=(powOne (s.getD n sec0) k).has):=by
 have h:=fold_at (waitsOf s) (s,f) hf (waitsOf_nodup s) (fun m hm=>waitsAt_lt (mem_waitsOf'.1 hm)) n
 unfold powS
 rw[settle_getD]
 refine⟨fun hw=>?_,fun hw=>?_⟩
 ·rw[h.1 (fun q=>by rw[mem_waitsOf'.1 q]at hw;cases hw)];rfl
 ·obtain⟨k,hk,e⟩:=h.2 (mem_waitsOf'.2 hw)
  exact⟨k,hk,by rw[e];rfl⟩
structure PutI(mk:Nat→Nat)(n:Nat)(D:Dsk):Prop where
 live:Live D
 len:D.s.length=9
 has:∀j,j<n→(D.s.getD j sec0).has=fullL (mk j)
theorem PutI.start(mk:Nat→Nat):PutI mk 0 (newD 9):=⟨⟨rfl,rfl⟩,by unfold newD secsOf;rw[List.length_replicate];omega,fun j h=>by omega⟩
theorem PutI.step{mk:Nat→Nat}{n:Nat}{D:Dsk}(h:PutI mk n D)(hn:n<9):PutI mk (n+1) (writeD D (n:Nat) (fullL (mk n))).1∧(writeD D (n:Nat) (fullL (mk n))).2=0:=by
 rw[write_live h.live (by rw[h.len];exact hn) (fullL_len _)]
 refine⟨⟨⟨rfl,rfl⟩,by simp[putS_len,h.len],fun j hj=>?_⟩,rfl⟩
 show((putS D.s n _).getD j sec0).has=_
 unfold putS
 rw[getD_set]
 by_cases e:j=n
 ·subst e;rw[if_pos ⟨rfl,by rw[h.len];exact hn⟩]
 ·rw[if_neg (fun q=>e q.1)];exact h.has j (by omega)
structure WaitI(mk:Nat→Nat)(ws ls:List Nat)(D:Dsk):Prop where
 live:Live D
 len:D.s.length=9
 wlen:ws.length=9
 llen:ls.length=9
 lb:∀x∈ls,x<256
 safe:∀j,j<9→(D.s.getD j sec0).safe=fullL (mk j)
 none_:∀j,j<9→ws.getD j 0=0→waitsAt D.s j=false∧(D.s.getD j sec0).has=fullL (mk j)
 some_:∀j,j<9→0<ws.getD j 0→waitsAt D.s j=true∧(D.s.getD j sec0).has=fullL (ls.getD j 0)
theorem WaitI.start{mk:Nat→Nat}{D:Dsk}(h:PutI mk 9 D):WaitI mk (List.replicate 9 0) (List.replicate 9 0) (syncD D).1∧(syncD D).2=0:=by
 rw[sync_live h.live]
 refine⟨⟨⟨rfl,rfl⟩,by simp[settle_len,h.len],by simp,by simp,fun x hx=>by rw[List.eq_of_mem_replicate hx];decide,fun j hj=>?_,fun j hj _=>?_,fun j hj q=>?_⟩,rfl⟩
 ·show((settle D.s).getD j sec0).safe=_
  rw[settle_getD];exact h.has j hj
 ·refine⟨?_,?_⟩
  ·show((settle D.s).getD j sec0).waits=false
   rw[settle_getD];rfl
  ·show((settle D.s).getD j sec0).has=_
   rw[settle_getD];exact h.has j hj
 ·rw[List.getD_eq_getElem?_getD,List.getElem?_replicate]at q
  split at q<;>simp at q
theorem WaitI.step{mk:Nat→Nat}{ws ls:List Nat}{D:Dsk}(h:WaitI mk ws ls D){n c:Nat}(hn:n<9)(hc:c<256):
 WaitI mk (ws.set n (ws.getD n 0+1)) (ls.set n c) (writeD D (n:Nat) (fullL c)).1∧(writeD D (n:Nat) (fullL c)).2=0:=by
 rw[write_live h.live (by rw[h.len];exact hn) (fullL_len _)]
 have gs:∀(l:List Nat) (j x:Nat),l.length=9→(l.set n x).getD j 0=if j=n then x else l.getD j 0:=by
  intro l j x hl
  rw[List.getD_eq_getElem?_getD,List.getD_eq_getElem?_getD,List.getElem?_set]
  by_cases e:n=j
  ·subst e;simp[hl,hn]
  ·rw[if_neg e,if_neg (fun q=>e q.symm)]
 have hp:∀j,(putS D.s n (fullL c)).getD j sec0=if j=n then⟨fullL c,(D.s.getD n sec0).safe,true⟩else D.s.getD j sec0:=by
  intro j
  unfold putS
  rw[getD_set]
  by_cases e:j=n
  ·rw[if_pos ⟨e,by rw[h.len];exact hn⟩,if_pos e]
  ·rw[if_neg (fun q=>e q.1),if_neg e]
 refine⟨⟨⟨rfl,rfl⟩,by simp[putS_len,h.len],by simp[h.wlen],by simp[h.llen],fun x hx=>?_,fun j hj=>?_,fun j hj q=>?_,fun j hj q=>?_⟩,rfl⟩
 ·rcases List.mem_or_eq_of_mem_set hx with q|rfl
  ·exact h.lb x q
  ·exact hc
 ·show((putS D.s n (fullL c)).getD j sec0).safe=_
  rw[hp]
  split
  ·rename_i e;subst e;exact h.safe j hj
  ·exact h.safe j hj
 ·rw[gs _ _ _ h.wlen]at q
  by_cases e:j=n
  ·rw[if_pos e]at q;omega
  ·rw[if_neg e]at q
   have:=h.none_ j hj q
   refine⟨?_,?_⟩
   ·show((putS D.s n (fullL c)).getD j sec0).waits=false
    rw[hp,if_neg e];exact this.1
   ·show((putS D.s n (fullL c)).getD j sec0).has=_
    rw[hp,if_neg e];exact this.2
 ·rw[gs _ _ _ h.wlen]at q
  rw[gs _ _ _ h.llen]
  by_cases e:j=n
  ·refine⟨?_,?_⟩
   ·show((putS D.s n (fullL c)).getD j sec0).waits=true
    rw[hp,if_pos e]
   ·show((putS D.s n (fullL c)).getD j sec0).has=_
    rw[hp,if_pos e,if_pos e]
  ·rw[if_neg e]at q
   have:=h.some_ j hj q
   refine⟨?_,?_⟩
   ·show((putS D.s n (fullL c)).getD j sec0).waits=true
    rw[hp,if_neg e];exact this.1
   ·show((putS D.s n (fullL c)).getD j sec0).has=_
    rw[hp,if_neg e,if_neg e];exact this.2
structure EndI(mk:Nat→Nat)(ws ls:List Nat)(D:Dsk):Prop where
 on:D.off=false
 len:D.s.length=9
 no:waitsOf D.s=[]
 sz:∀j,j<9→(D.s.getD j sec0).has.length=256
 none_:∀j,j<9→ws.getD j 0=0→∀i,i<256→(D.s.getD j sec0).has.getD i 0=mk j
 some_:∀j,j<9→0<ws.getD j 0→∃K,K≤256∧(∀i,i<K→(D.s.getD j sec0).has.getD i 0=ls.getD j 0)∧(∀i,K≤i→i<256→(D.s.getD j sec0).has.getD i 0=mk j)
theorem full_getD{c i:Nat}(h:i<256):(fullL c).getD i 0=c:=by
 unfold fullL
 rw[List.getD_eq_getElem?_getD,List.getElem?_replicate,if_pos h];rfl
theorem WaitI.fin{mk:Nat→Nat}{ws ls:List Nat}{D:Dsk}(h:WaitI mk ws ls D){f:List Nat}(hf:Bts f):EndI mk ws ls (powerD D f):=by
 refine⟨rfl,by show(powS D.s f).length=9;rw[powS_len,h.len],settle_waits _,fun j hj=>?_,fun j hj q i hi=>?_,fun j hj q=>?_⟩
 ·show((powS D.s f).getD j sec0).has.length=256
  have hp:=powS_at (s:=D.s) hf j
  by_cases q:ws.getD j 0=0
  ·obtain⟨a,b⟩:=h.none_ j hj q
   rw[hp.1 a,b,fullL_len]
  ·obtain⟨a,b⟩:=h.some_ j hj (by omega)
   obtain⟨k,hk,e⟩:=hp.2 a
   rw[e]
   show((D.s.getD j sec0).has.take k++(D.s.getD j sec0).safe.drop k).length=256
   rw[b,h.safe j hj,List.length_append,List.length_take,List.length_drop,fullL_len,fullL_len]
   omega
 ·show((powS D.s f).getD j sec0).has.getD i 0=_
  obtain⟨a,b⟩:=h.none_ j hj q
  rw[(powS_at (s:=D.s) hf j).1 a,b,full_getD hi]
 ·obtain⟨a,b⟩:=h.some_ j hj q
  obtain⟨k,hk,e⟩:=(powS_at (s:=D.s) hf j).2 a
  have e2:∀i,((powerD D f).s.getD j sec0).has.getD i 0=((fullL (ls.getD j 0)).take k++(fullL (mk j)).drop k).getD i 0:=by
   intro i
   show((powS D.s f).getD j sec0).has.getD i 0=_
   rw[e]
   simp only[powOne]
   rw[b,h.safe j hj]
  have hl:((fullL (ls.getD j 0)).take k).length=k:=by rw[List.length_take,fullL_len];omega
  refine⟨k,hk,fun i hi=>?_,fun i h1 h2=>?_⟩
  ·rw[e2,List.getD_eq_getElem?_getD,List.getElem?_append_left (by rw[hl];exact hi),List.getElem?_take,if_pos hi,←List.getD_eq_getElem?_getD,full_getD (by omega)]
  ·rw[e2,List.getD_eq_getElem?_getD,List.getElem?_append_right (by rw[hl];exact h1),hl,List.getElem?_drop,show k+(i - k)=i from by omega,←List.getD_eq_getElem?_getD,full_getD h2]
end
end Go.Proofs.YtmiglhlbhbfodaaGreatDoor
