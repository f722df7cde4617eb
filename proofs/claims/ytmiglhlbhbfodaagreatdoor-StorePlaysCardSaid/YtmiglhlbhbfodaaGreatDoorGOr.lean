/- GOr: OrdR1, OrdR2. -/
import Derived.Test.YtmiglhlbhbfodaaGreatDoorGOrd
import Derived.Deep.QuietTactic
import Derived.BigQuiet
set_option maxHeartbeats 1600000
namespace Go.Proofs.YtmiglhlbhbfodaaGreatDoor
section
open Go.RowKit
theorem div_pow_succ(n i:Nat):n / 256^i / 256=n / 256^(i+1):=by rw[Nat.div_div_eq_div_mul,Nat.pow_succ]
theorem rf_high(n k:Nat)(w:World)(h:n<18446744073709551616)(hk:k≤8):
 Calls Tryz.prog 179 #[.int .u64 n,.int .i64 k] w fun e w'=>∃v,e=.returned v∧OwnN w' w.heap.size 5 .u8 v (be k n)∧Same w w':=by
 have H:=qh h;clear h
 go_enter Tryz.func179,Tryz.ntmps179
 go_wp2_with fail
 go_loopw [0,5,6] (fun m b c wr=>∃(i:Nat) (q:Nat),i≤k∧c=.int .i64 i∧m=.int .u64 q∧Hid (q=n / 256^i)∧Hid (OwnN wr w.heap.size 5 .u8 b (be i n))∧Hid (Same w wr)) (fun _ _ c _=>k - (intOf c).toNat)
 case atStart=>exact⟨0,n,Nat.zero_le _,rfl,rfl,by show _=_;simp,World.ownsRow_nil _ _ _ _,Kept.refl _ _⟩
 case round=>
  obtain⟨i,q,hi,rfl,rfl,hq,ho,hs⟩:=hrel
  have hq64:q<18446744073709551616:=by rw[hq.out];exact Nat.lt_of_le_of_lt (Nat.div_le_self _ _) H.out
  have HQ:=qh hq64;clear hq64
  by_cases hlt:i<k
  ·have hi8:i<8:=by omega
   obtain⟨a,cap,rfl,hc1,hc2,hc3,hat,hbk⟩:=ho.out.read
   rw[be_length]
   have HC3:=qh hc3;have HBK:=qh hbk
   clear hc3 hbk hc1 hc2
   have hat':NatsAt (wr.alloc (.cells #[.int .u8 ((q % 256:Nat):Int)] 5)) .u8 a (be i n):=hat.same ((Kept.refl _ wr).alloc _)
   have HAT:=qh hat';clear hat hat'
   have hle:=hs.out.size
   have hown:Hid (OwnN (wr.alloc (.cells #[.int .u8 ((q % 256:Nat):Int)] 5)) w.heap.size 5 .u8 (.slice (some ⟨wr.heap.size,0,none⟩) 1 1) [q % 256]):=OwnN.blk (xs:=[q % 256]) (Blk.new _ _ _) rfl hle (by simp[maxLen])
   go_wp2_with(at_builtin;refine wpList_appendN rfl _ _ 32 rfl w.heap.size 5 .u8 1 Tryz.underlying32 info8 (Nat.le_refl _) _ [q % 256] rfl hown.out _ _ _ (be i n) rfl (be_length i n).symm HAT.out HC3.out (by rw[be_length];simp;omega) (by simp;omega) ?_;intro v' w2 ho2 hg2 _;have HO2:=qh ho2;have HS2:=qh ((hs.out.alloc _).grownNew hg2 (fun k hk=>(World.ownsRow.lt hown.out k hk).1));clear ho2 hg2)
   go_roundw
   case rel=>
    refine⟨i+1,q / 256,by omega,by go_num,?_,?_,?_,HS2⟩
    ·rw[u64_wrap _ (by omega) (by have:=HQ.out;omega)];simp
    ·show _=_;rw[hq.out,div_pow_succ]
    ·show OwnN _ _ _ _ _ _
     rw[be_head,←hq.out]
     exact HO2.out
   case measure=>simp[intOf];omega
  ·have e:i=k:=by omega
   subst e
   go_wp2
   go_ret
   exact⟨_,rfl,ho.out,hs.out⟩
theorem rf_putSmall(n:Nat)(w:World)(h:n<18446744073709551616):
 Calls Tryz.prog 161 #[.int .u64 n] w fun e w'=>∃v,e=.returned v∧OwnN w' w.heap.size 5 .u8 v (putSmall n)∧Same w w':=by
 have H:=qh h;clear h
 have hw:=wid_le n
 go_enter Tryz.func161,Tryz.ntmps161
 go_wp2_with fail
 go_loop [3,4] (fun i v=>∃m j:Nat,v=.int .u64 m∧i=.int .i64 j∧Hid (m<18446744073709551616∧j+wid m=wid n)) (fun _ v=>(intOf v).toNat)
 case atStart=>exact⟨n,0,rfl,rfl,by show _∧_;exact⟨H.out,by omega⟩⟩
 case round=>
  obtain⟨m,j,rfl,rfl,hm⟩:=hrel
  have hj:j≤8:=by have:=hm.out.2;omega
  by_cases h0:0<m
  ·go_wp2_with fail
   go_round
   case rel=>exact⟨m / 256,j+1,by rw[u64_wrap _ (by omega) (by have:=hm.out.1;omega)];simp,by go_num,by have h1:=hm.out.1;have h2:=hm.out.2;rw[wid_step m h1 h0]at h2;show _∧_;omega⟩
   case measure=>rw[u64_wrap _ (by omega) (by have:=hm.out.1;omega)];simp[intOf];omega
  ·have hm0:m=0:=by omega
   subst hm0
   have hjw:j=wid n:=by have:=hm.out.2;rw[wid_zero]at this;omega
   subst hjw
   go_wp2_with fail
   refine(rf_high n (wid n) _ H.out hw).mono ?_
   rintro e w1 ⟨v,rfl,ho,hs⟩
   have B0:Blk w1 w.heap.size #[.int .u8 ((wid n:Nat):Int)] 5:=(Blk.new w _ _).kept hs (fun h=>h)
   have HB:Hid (OwnN w1 w.heap.size 5 .u8 (.slice (some ⟨w.heap.size,0,none⟩) 1 1) [wid n]):=OwnN.blk (xs:=[wid n]) B0 rfl (Nat.le_refl _) (by simp[maxLen])
   have HS:=qh (((Kept.refl (fun _=>False) w).alloc _).trans hs)
   obtain⟨a,cap,rfl,hc1,hc2,hc3,hat,_⟩:=ho.read
   rw[be_length]
   have HC3:=qh hc3
   have HA:=qh hat
   have hle:=hs.size
   simp at hle
   clear ho hs hat hc1 hc2 hc3 B0
   go_wp2_with(at_builtin;refine wpList_appendN rfl _ _ 32 rfl w.heap.size 5 .u8 1 Tryz.underlying32 info8 (Nat.le_refl _) _ [wid n] rfl HB.out _ _ _ (be (wid n) n) rfl (be_length (wid n) n).symm HA.out HC3.out (by rw[be_length];simp;omega) (by omega) ?_;intro v' w2 ho2 hg2 _;have HO2:=qh ho2;have HS2:=qh (HS.out.grownNew hg2 (fun k hk=>(World.ownsRow.lt HB.out k hk).1));clear ho2 hg2)
   go_ret
   exact⟨_,rfl,HO2.out,HS2.out⟩
theorem low_lt7(xs:List Nat)(j:Nat)(hb:Bytes xs)(hj:j<xs.length)(hl:xs.length≤8):low (xs.take j)<72057594037927936:=by
 have h1:=low_lt (xs.take j) (fun y hy=>hb y (List.mem_of_mem_take hy))
 have h2:(xs.take j).length≤7:=by simp;omega
 exact Nat.lt_of_lt_of_le h1 (Nat.le_trans (Nat.pow_le_pow_right (by decide) h2) (by decide))
theorem rf_low(a:Option Addr)(cap:Nat)(xs:List Nat)(w:World)(hl:xs.length≤8)(hb:Bytes xs)(ha:NatsAt w .u8 a xs):
 Calls Tryz.prog 189 #[.slice a xs.length cap] w fun e w'=>e=.returned (.int .u64 (low xs))∧w=w':=by
 have HB:=qh hb;have HA:=qh ha;clear hb ha
 go_enter Tryz.func189,Tryz.ntmps189
 go_wp2
 go_loop [3,4] (fun n i=>∃j:Nat,j≤xs.length∧i=.int .i64 j∧n=.int .u64 (low (xs.take j))) (fun _ i=>xs.length - (intOf i).toNat)
 case atStart=>exact⟨0,Nat.zero_le _,rfl,rfl⟩
 case round=>
  obtain⟨j,hj,rfl,rfl⟩:=hrel
  by_cases hlt:j<xs.length
  ·obtain⟨b,off,x,rfl,_,hx,hc⟩:=HA.out.at hlt
   have hxb:x<256:=HB.out x (List.mem_of_getElem? hx)
   have HS:Hid (low (xs.take (j+1))=256*low (xs.take j)+x):=low_take_succ xs j x hx
   have hm:low (xs.take j)<72057594037927936:=low_lt7 xs j HB.out hlt hl
   generalize hm':low (xs.take j)=m at*
   have HM:=qh hm';have HX:=qh hx;clear hm' hx
   go_wp2
   go_round
   case rel=>exact⟨j+1,by omega,by go_num,by rw[HS.out];go_num⟩
   case measure=>simp[intOf];omega
  ·have e:j=xs.length:=by omega
   subst e
   go_wp2
   go_ret
   exact⟨rfl,rfl⟩
end
section
open Go.RowKit
theorem rf_getSmall(a:Option Addr)(cap:Nat)(xs:List Nat)(w:World)(hb:Bytes xs)(ha:NatsAt w .u8 a xs)(hc:xs.length≤cap)(hm:cap≤9223372036854775807):
 Calls Tryz.prog 182 #[.slice a xs.length cap] w fun e w'=>e=.returned (smallV (getSmall xs))∧Same w w':=by
 have HB:=qh hb;have HA:=qh ha;clear hb ha
 cases xs with
 |nil=>
  go_enter Tryz.func182,Tryz.ntmps182
  go_wp2
  go_ret3
  exact⟨rfl,Kept.refl _ _⟩
 |cons k r=>
  obtain⟨b,off,x,rfl,_,hx,c0⟩:=HA.out.at (i:=0) (by simp)
  simp only[List.getElem?_cons_zero,Option.some.injEq,Nat.add_zero]at hx c0
  subst hx
  have hk:k<256:=HB.out k (by simp)
  have hr:Bytes r:=fun y hy=>HB.out y (by simp[hy])
  have HR:=qh hr;clear hr
  have hat:NatsAt w .u8 (some ⟨b,off+1,none⟩) r:=HA.out.drop 1
  have HT:=qh hat;clear hat
  simp only[List.length_cons]at hc ⊢
  generalize hlr:r.length=n at*
  have HL:=qh hlr;clear hlr
  have hne:(((n+1:Nat):Int)==0)=false:=by simp;omega
  by_cases h8:8<k
  ·have HE:Hid (getSmall (k::r)=(0,0,4)):=by show _=_;simp[getSmall,h8]
   go_enter Tryz.func182,Tryz.ntmps182
   go_wp2
   go_ret3
   exact⟨by rw[HE.out];rfl,by first|exact Kept.refl _ _|exact(Kept.refl _ w).drewN _⟩
  ·by_cases hn:n<k
   ·have HE:Hid (getSmall (k::r)=(0,0,3)):=by show _=_;simp[getSmall,h8,HL.out,hn]
    go_enter Tryz.func182,Tryz.ntmps182
    go_wp2
    go_ret3
    exact⟨by rw[HE.out];rfl,by first|exact Kept.refl _ _|exact(Kept.refl _ w).drewN _⟩
   ·by_cases hk0:k=0
    ·subst hk0
     have HE:Hid (getSmall (0::r)=(0,1,0)):=by show _=_;simp[getSmall];rfl
     by_cases h1:cap=1
     all_goals
      go_enter Tryz.func182,Tryz.ntmps182
      go_wp2_with fail
      go_quiet ((go_at_call 189;exact Calls.quiet_of_same ((rf_low _ _ ([]:List Nat) _ (by simp) (by intro x hx;cases hx) (.inl rfl)).mono fun _ _ h=>⟨h.1,h.2.symm⟩)))
      go_wp2
      go_ret3
      exact⟨by rw[HE.out];rfl,(Kept.refl _ w).drewN _⟩
    ·obtain⟨y,ry,hr⟩:∃y ry,r=y::ry:=by cases r with|nil=>exact absurd HL.out (by simp;omega)|cons y ry=>exact⟨y,ry,rfl⟩
     have HRR:=qh hr;clear hr
     have c1:w.cell? ⟨b,off+1,none⟩=some (.int .u8 (y:Nat)):=by
      obtain⟨b',off',x',e,_,hx',hc'⟩:=HT.out.at (i:=0) (by rw[HRR.out];simp)
      simp only[Option.some.injEq,Addr.mk.injEq,and_true]at e
      obtain⟨rfl,rfl⟩:=e
      rw[HRR.out]at hx'
      simp at hx'
      subst hx'
      simpa using hc'
     by_cases hy:y=0
     ·subst hy
      have HE:Hid (getSmall (k::r)=(0,0,4)):=by show _=_;simp only[getSmall];rw[if_neg h8,if_neg (by rw[HL.out];exact hn),if_pos ⟨by omega,by rw[HRR.out];rfl⟩]
      go_enter Tryz.func182,Tryz.ntmps182
      go_wp2
      go_ret3
      exact⟨by rw[HE.out];rfl,by first|exact Kept.refl _ _|exact(Kept.refl _ w).drewN _⟩
     ·have HE:Hid (getSmall (k::r)=(low (r.take k),1+k,0)):=by show _=_;simp only[getSmall];rw[if_neg h8,if_neg (by rw[HL.out];exact hn),if_neg (by rw[HRR.out];simp;intro _;exact hy),Nat.add_comm 1 k]
      have hyy:(((y:Nat):Int)==0)=false:=by simp[hy]
      have hlen:(r.take k).length=k:=by rw[List.length_take,HL.out];omega
      have hnum:=fun w' (hat':NatsAt w' .u8 (some ⟨b,off+1,none⟩) (r.take k))=>rf_low (some ⟨b,off+1,none⟩) (cap - 1) (r.take k) w' (by omega) (fun y hy=>HR.out y (List.mem_of_mem_take hy)) hat'
      simp only[hlen]at hnum
      have HN:=qh hnum;clear hnum hlen
      go_enter Tryz.func182,Tryz.ntmps182
      go_wp2_with fail
      go_quiet ((go_at_call 189;exact Calls.quiet_of_same ((HN.out _ (by exact HT.out.take k)).mono fun _ _ h=>⟨h.1,h.2.symm⟩)))
      go_wp2
      go_ret3
      exact⟨by rw[HE.out];rfl,by first|exact Kept.refl _ _|exact(Kept.refl _ w).drewN _⟩
abbrev rdrV(a:Option Addr)(n cap:Nat)(er:Nat):Value:=.agg #[.slice a n cap,.int .i64 (er:Nat)]
theorem rf_small(a:Option Addr)(cap:Nat)(xs:List Nat)(er:Nat)(w:World)(hb:Bytes xs)(hat:NatsAt w .u8 a xs)(hc:xs.length≤cap)(hm:cap≤9223372036854775807):
 Calls Tryz.prog 166 #[rdrV a xs.length cap er] w fun e w'=>∃a' cap',e=.returned (.tuple #[rdrV a' (rdSmall xs er).1.length cap' (rdSmall xs er).2.1,.int .i64 ((rdSmall xs er).2.2:Nat)])∧
  NatsAt w' .u8 a' (rdSmall xs er).1∧(rdSmall xs er).1.length≤cap'∧cap'≤9223372036854775807∧(∀x,a'=some x→∃y,a=some y∧x.block=y.block)∧Same w w':=by
 have HA:=qh hat
 have G:=qh fun w' (h:NatsAt w' .u8 a xs)=>rf_getSmall a cap xs w' hb h hc hm
 have HOK:=qh (getSmall_ok xs)
 have HU:=qh (getSmall_lt xs hb)
 clear hat hb
 by_cases he:er=0
 ·subst he
  have HD:Hid (rdSmall xs 0=if(getSmall xs).2.2≠0 then(xs,(getSmall xs).2.2,0)else if 1099511627776<(getSmall xs).1 then(xs,9,0)else(xs.drop (getSmall xs).2.1,0,(getSmall xs).1)):=rfl
  generalize getSmall xs=q at*
  obtain⟨u,n,e2⟩:=q
  by_cases h2:e2=0
  ·subst h2
   obtain⟨hn1,hn2,_⟩:=HOK.out rfl
   simp only at hn1 hn2
   by_cases hu:1099511627776<u
   ·have HE:Hid (rdSmall xs 0=(xs,9,0)):=by show _=_;rw[HD.out];simp[hu]
    clear HD HOK HU
    go_enter Tryz.func166,Tryz.ntmps166
    go_wp2_with fail
    refine Calls.boxes2 ?_
    intro W g1 g2 k1 hz
    refine(G.out W (HA.out.same k1)).mono ?_
    rintro e w2 ⟨rfl,k2⟩
    have G1:=g1.kept k2 (fun h=>h)
    have G2:=g2.kept k2 (fun h=>h)
    have K:=qh (k1.trans k2)
    have q0:w2.cell? ⟨w.heap.size,0,none⟩=some (.slice _ _ _):=G1.cell 0 rfl
    have q1:w2.cell? ⟨w.heap.size,1,none⟩=some (.int .i64 ((0:Nat):Int)):=G1.cell 1 rfl
    have q2:w2.cell? ⟨w.heap.size+1,0,none⟩=some (.slice none 0 0):=G2.cell 0 rfl
    have q3:w2.cell? ⟨w.heap.size+1,1,none⟩=some (.int .i64 0):=G2.cell 1 rfl
    have f2:∀i,w2.frozen? ⟨w.heap.size+1,i,none⟩=false:=G2.free
    have GG:=qh G2
    clear g1 g2 k1 k2 G1 G2 hz
    go_wp2_with fail
    have p:=(GG.out.set 0 (.slice a xs.length cap)).set 1 (.int .i64 (9))
    have p0:=p.cell 0 (v:=.slice a xs.length cap) rfl
    have p1:=p.cell 1 (v:=.int .i64 (9)) rfl
    refine bodyPost_ret (v:=.tuple #[.agg #[.slice a xs.length cap,.int .i64 (9)],.int .i64 (0)]) (by simp[results,Tryz.results166,go_sem,p0,p1]) rfl ?_
    rw[HE.out]
    have KK:Same w ((w2.setCell ⟨w.heap.size+1,0,none⟩ (.slice a xs.length cap)).setCell ⟨w.heap.size+1,1,none⟩ (.int .i64 (9))):=(K.out.setNew (by simp) _).setNew (by simp) _
    exact⟨a,cap,rfl,HA.out.same KK,hc,hm,fun x hx=>⟨x,hx,rfl⟩,KK⟩
   ·have HE:Hid (rdSmall xs 0=(xs.drop n,0,u)):=by show _=_;rw[HD.out];simp[hu]
    have hlt:u<18446744073709551616:=HU.out
    obtain⟨b,off,_,ha,_⟩:=HA.out.at (i:=0) (by omega)
    subst ha
    clear HD HOK HU
    rcases Nat.lt_or_ge n cap with hcap|hcap
    ·skip
     go_enter Tryz.func166,Tryz.ntmps166
     go_wp2_with fail
     refine Calls.boxes2 ?_
     intro W g1 g2 k1 hz
     refine(G.out W (HA.out.same k1)).mono ?_
     rintro e w2 ⟨rfl,k2⟩
     have G1:=g1.kept k2 (fun h=>h)
     have G2:=g2.kept k2 (fun h=>h)
     have K:=qh (k1.trans k2)
     have q0:w2.cell? ⟨w.heap.size,0,none⟩=some (.slice _ _ _):=G1.cell 0 rfl
     have q1:w2.cell? ⟨w.heap.size,1,none⟩=some (.int .i64 ((0:Nat):Int)):=G1.cell 1 rfl
     have q2:w2.cell? ⟨w.heap.size+1,0,none⟩=some (.slice none 0 0):=G2.cell 0 rfl
     have q3:w2.cell? ⟨w.heap.size+1,1,none⟩=some (.int .i64 0):=G2.cell 1 rfl
     have f2:∀i,w2.frozen? ⟨w.heap.size+1,i,none⟩=false:=G2.free
     have GG:=qh G2
     clear g1 g2 k1 k2 G1 G2 hz
     go_wp2_with fail
     have p:=(GG.out.set 0 (.slice (some ⟨b,off+n,none⟩) (xs.length - n) (cap - n))).set 1 (.int .i64 (0))
     have p0:=p.cell 0 (v:=.slice (some ⟨b,off+n,none⟩) (xs.length - n) (cap - n)) rfl
     have p1:=p.cell 1 (v:=.int .i64 (0)) rfl
     refine bodyPost_ret (v:=.tuple #[.agg #[.slice (some ⟨b,off+n,none⟩) (xs.length - n) (cap - n),.int .i64 (0)],.int .i64 (((u:Nat):Int))]) (by simp[results,Tryz.results166,go_sem,p0,p1]) rfl ?_
     rw[HE.out]
     have KK:Same w ((w2.setCell ⟨w.heap.size+1,0,none⟩ (.slice (some ⟨b,off+n,none⟩) (xs.length - n) (cap - n))).setCell ⟨w.heap.size+1,1,none⟩ (.int .i64 (0))):=(K.out.setNew (by simp) _).setNew (by simp) _
     exact⟨some ⟨b,off+n,none⟩,cap - n,by rw[List.length_drop];rfl,(HA.out.drop n).same KK,by rw[List.length_drop];omega,by omega,fun x hx=>⟨_,rfl,by simp at hx;subst hx;rfl⟩,KK⟩
    ·obtain rfl:n=cap:=by omega
     have hlen:xs.length=n:=by omega
     have HLn:=qh hlen;clear hlen
     go_enter Tryz.func166,Tryz.ntmps166
     go_wp2_with fail
     refine Calls.boxes2 ?_
     intro W g1 g2 k1 hz
     refine(G.out W (HA.out.same k1)).mono ?_
     rintro e w2 ⟨rfl,k2⟩
     have G1:=g1.kept k2 (fun h=>h)
     have G2:=g2.kept k2 (fun h=>h)
     have K:=qh (k1.trans k2)
     have q0:w2.cell? ⟨w.heap.size,0,none⟩=some (.slice _ _ _):=G1.cell 0 rfl
     have q1:w2.cell? ⟨w.heap.size,1,none⟩=some (.int .i64 ((0:Nat):Int)):=G1.cell 1 rfl
     have q2:w2.cell? ⟨w.heap.size+1,0,none⟩=some (.slice none 0 0):=G2.cell 0 rfl
     have q3:w2.cell? ⟨w.heap.size+1,1,none⟩=some (.int .i64 0):=G2.cell 1 rfl
     have f2:∀i,w2.frozen? ⟨w.heap.size+1,i,none⟩=false:=G2.free
     have GG:=qh G2
     clear g1 g2 k1 k2 G1 G2 hz
     go_wp2_with fail
     have p:=(GG.out.set 0 (.slice (some ⟨b,off,none⟩) 0 0)).set 1 (.int .i64 (0))
     have p0:=p.cell 0 (v:=.slice (some ⟨b,off,none⟩) 0 0) rfl
     have p1:=p.cell 1 (v:=.int .i64 (0)) rfl
     refine bodyPost_ret (v:=.tuple #[.agg #[.slice (some ⟨b,off,none⟩) 0 0,.int .i64 (0)],.int .i64 (((u:Nat):Int))]) (by simp[results,Tryz.results166,go_sem,p0,p1]) rfl ?_
     rw[HE.out]
     have KK:Same w ((w2.setCell ⟨w.heap.size+1,0,none⟩ (.slice (some ⟨b,off,none⟩) 0 0)).setCell ⟨w.heap.size+1,1,none⟩ (.int .i64 (0))):=(K.out.setNew (by simp) _).setNew (by simp) _
     have hnil:xs.drop n=[]:=List.drop_of_length_le (by rw[HLn.out];omega)
     exact⟨some ⟨b,off,none⟩,0,by rw[List.length_drop,HLn.out,Nat.sub_self];rfl,by rw[hnil];exact .inl rfl,by rw[hnil];simp,by omega,fun x hx=>⟨_,rfl,by simp at hx;subst hx;rfl⟩,KK⟩
  ·have HE:Hid (rdSmall xs 0=(xs,e2,0)):=by show _=_;rw[HD.out];simp[h2]
   have hbe:(((e2:Nat):Int)==0)=false:=by simp[h2]
   have hbn:(((e2:Nat):Int) !=0)=true:=by simp[h2]
   clear HD HOK HU
   go_enter Tryz.func166,Tryz.ntmps166
   go_wp2_with fail
   refine Calls.boxes2 ?_
   intro W g1 g2 k1 hz
   refine(G.out W (HA.out.same k1)).mono ?_
   rintro e w2 ⟨rfl,k2⟩
   have G1:=g1.kept k2 (fun h=>h)
   have G2:=g2.kept k2 (fun h=>h)
   have K:=qh (k1.trans k2)
   have q0:w2.cell? ⟨w.heap.size,0,none⟩=some (.slice _ _ _):=G1.cell 0 rfl
   have q1:w2.cell? ⟨w.heap.size,1,none⟩=some (.int .i64 ((0:Nat):Int)):=G1.cell 1 rfl
   have q2:w2.cell? ⟨w.heap.size+1,0,none⟩=some (.slice none 0 0):=G2.cell 0 rfl
   have q3:w2.cell? ⟨w.heap.size+1,1,none⟩=some (.int .i64 0):=G2.cell 1 rfl
   have f2:∀i,w2.frozen? ⟨w.heap.size+1,i,none⟩=false:=G2.free
   have GG:=qh G2
   clear g1 g2 k1 k2 G1 G2 hz
   go_wp2_with fail
   have p:=(GG.out.set 0 (.slice a xs.length cap)).set 1 (.int .i64 (((e2:Nat):Int)))
   have p0:=p.cell 0 (v:=.slice a xs.length cap) rfl
   have p1:=p.cell 1 (v:=.int .i64 (((e2:Nat):Int))) rfl
   refine bodyPost_ret (v:=.tuple #[.agg #[.slice a xs.length cap,.int .i64 (((e2:Nat):Int))],.int .i64 (0)]) (by simp[results,Tryz.results166,go_sem,p0,p1]) rfl ?_
   rw[HE.out]
   have KK:Same w ((w2.setCell ⟨w.heap.size+1,0,none⟩ (.slice a xs.length cap)).setCell ⟨w.heap.size+1,1,none⟩ (.int .i64 (((e2:Nat):Int)))):=(K.out.setNew (by simp) _).setNew (by simp) _
   exact⟨a,cap,rfl,HA.out.same KK,hc,hm,fun x hx=>⟨x,hx,rfl⟩,KK⟩
 ·have HE:Hid (rdSmall xs er=(xs,er,0)):=by show _=_;simp[rdSmall,he]
  have hbn:(((er:Nat):Int) !=0)=true:=by simp[he]
  go_enter Tryz.func166,Tryz.ntmps166
  go_wp2_with fail
  have p:Blk ((w.alloc (.cells #[.slice a xs.length cap,.int .i64 (er:Nat)] 221)).alloc (.cells #[.slice a xs.length cap,.int .i64 (er:Nat)] 221)) (w.heap.size+1) #[.slice a xs.length cap,.int .i64 (er:Nat)] 221:=Blk.new' _ _ _ (by simp)
  refine bodyPost_ret (v:=.tuple #[.agg #[.slice a xs.length cap,.int .i64 (er:Nat)],.int .i64 0]) (by simp[results,Tryz.results166,go_sem]) rfl ?_
  rw[HE.out]
  have KK:=(((Kept.refl (fun _=>False) w).alloc (.cells #[.slice a xs.length cap,.int .i64 (er:Nat)] 221)).alloc (.cells #[.slice a xs.length cap,.int .i64 (er:Nat)] 221))
  exact⟨a,cap,rfl,HA.out.same KK,hc,hm,fun x hx=>⟨x,hx,rfl⟩,KK⟩
end
end Go.Proofs.YtmiglhlbhbfodaaGreatDoor
