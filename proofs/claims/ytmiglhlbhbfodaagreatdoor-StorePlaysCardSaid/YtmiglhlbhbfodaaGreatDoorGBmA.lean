/- GBmA: BmR1, Bm2. -/
import Derived.Test.YtmiglhlbhbfodaaGreatDoorBm1
set_option maxHeartbeats 800000
set_option maxRecDepth 100000
namespace Go.Proofs.YtmiglhlbhbfodaaGreatDoor
section
open Go.RowKit
theorem rb_words(s:Nat)(w:World)(h:s≤4096):
 Calls Tryz.prog 136 #[.int .i64 (s:Nat)] w fun e w'=>e=.returned (.int .i64 (((s+63) / 64:Nat):Int))∧w=w':=by
 go_enter Tryz.func136,Tryz.ntmps136
 go_wp2
 go_loop [3] (fun i=>∃n:Nat,n≤(s+63) / 64∧i=.int .i64 n) (fun i=>65 - (intOf i).toNat)
 case atStart=>exact⟨0,Nat.zero_le _,rfl⟩
 case round=>
  obtain⟨n,hn,rfl⟩:=hrel
  by_cases hlt:64*n<s
  ·have:(64:Int)*n<s:=by omega
   go_wp2
   go_round
   case rel=>exact⟨n+1,by omega,by go_num⟩
   case measure=>simp[intOf];omega
  ·have:¬(64:Int)*n<s:=by omega
   go_wp2
   go_ret
   exact⟨ret_int (by omega),rfl⟩
theorem rb_bit(s:Int)(a:Option Addr)(cap:Nat)(ws:List Nat)(i:Nat)(w:World)(hat:NatsAt w .u64 a ws)(hi:i / 64<ws.length)(hl:ws.length≤64):
 Calls Tryz.prog 143 #[mapV s a ws.length cap,.int .i64 (i:Nat)] w fun e w'=>e=.returned (.bool (bitN ws i))∧Same w w':=by
 obtain⟨b,off,x,rfl,hb,hx,hc⟩:=hat.at hi
 have hx':ws.getD (i / 64) 0=x:=by rw[List.getD,hx];rfl
 have HE:Hid (bitN ws i=(((x:Int) / 2^(i % 64)).tmod 2==1)):=by
  show _=_
  unfold bitN
  have e:(x:Int) / 2^(i % 64)=((x / 2^(i % 64):Nat):Int):=by simp
  rw[hx',Bool.eq_iff_iff,←testBit_div,beq_iff_eq,e,Int.tmod_eq_emod_of_nonneg (Int.natCast_nonneg _)]
  generalize x / 2^(i % 64)=y
  omega
 clear hx hx' hat
 generalize ws.length=n at*
 go_enter Tryz.func143,Tryz.ntmps143
 go_wp2
 go_ret
 exact⟨by rw[HE.out];rfl,(Kept.refl _ w).alloc _⟩
theorem rb_check_size(s:Int)(a:Option Addr)(n cap:Nat)(w:World)(h:s<0∨4096<s):
 Calls Tryz.prog 142 #[mapV s a n cap] w fun e w'=>e=.returned (.int .i64 4)∧Same w w':=by
 rcases h with h|h
 ·go_enter Tryz.func142,Tryz.ntmps142
  go_wp2_with fail
  go_quiet (fail)
  go_wp2
  go_ret
  exact⟨rfl,by repeat(first|exact Kept.refl _ _|refine Kept.drewN ?_ _|refine Kept.alloc ?_ _)⟩
 ·have h0:decide (s<0)=false:=by simp;omega
  go_enter Tryz.func142,Tryz.ntmps142
  go_wp2_with fail
  go_quiet (fail)
  go_wp2
  go_ret
  exact⟨rfl,by repeat(first|exact Kept.refl _ _|refine Kept.drewN ?_ _|refine Kept.alloc ?_ _)⟩
theorem rb_check_len(s:Nat)(a:Option Addr)(n cap:Nat)(w:World)(h:s≤4096)(hn:¬n=(s+63) / 64):
 Calls Tryz.prog 142 #[mapV s a n cap] w fun e w'=>e=.returned (.int .i64 4)∧Same w w':=by
 have h0:decide ((s:Int)<0)=false:=decide_eq_false (by omega)
 have h1:decide ((4096:Int)<(s:Int))=false:=decide_eq_false (by omega)
 have h2:(((n:Nat):Int) !=(((s+63) / 64:Nat):Int))=true:=by rw[bne_iff_ne];omega
 go_enter Tryz.func142,Tryz.ntmps142
 go_wp2_with fail
 go_quiet ((go_at_call 136;exact Calls.quiet_of_same ((rb_words s _ h).mono fun _ _ h=>⟨h.1,h.2.symm⟩)))
 go_wp2
 go_ret
 exact⟨rfl,by repeat(first|exact Kept.refl _ _|refine Kept.drewN ?_ _|refine Kept.alloc ?_ _)⟩
theorem rb_check_bits(s:Nat)(a:Option Addr)(cap:Nat)(ws:List Nat)(w:World)(h:s≤4096)(hat:NatsAt w .u64 a ws)(hl:ws.length=(s+63) / 64):
 Calls Tryz.prog 142 #[mapV s a ws.length cap] w fun e w'=>∃r:Int,e=.returned (.int .i64 r)∧(r=0∧(∀n,s≤n→n<64*ws.length→bitN ws n=false)∨r=4∧∃n,s≤n∧n<64*ws.length∧bitN ws n=true)∧Same w w':=by
 have h0:decide ((s:Int)<0)=false:=decide_eq_false (by omega)
 have h1:decide ((4096:Int)<(s:Int))=false:=decide_eq_false (by omega)
 have hn2:ws.length≤64:=by omega
 have hn3:s≤64*ws.length:=by omega
 have HA:=qh hat;clear hat
 have BIT:=qh fun i w' (h:Same w w') (hi:i / 64<ws.length)=>rb_bit s a cap ws i w' (HA.out.same h) hi hn2
 generalize hn:ws.length=n at*
 have W:=qh fun w=>(rb_words s w h).mono (R':=fun e w'=>e=.returned (.int .i64 (n:Nat))∧w'=w) fun _ _ h=>by rw[←hl]at h;exact⟨h.1,h.2.symm⟩
 have h2:(((n:Nat):Int) !=((n:Nat):Int))=false:=by simp
 clear hn hl
 go_enter Tryz.func142,Tryz.ntmps142
 go_wp2_with fail
 go_quiet ((go_at_call 136;exact Calls.quiet_of_same (W.out _)))
 go_wp2_with fail
 go_loopw [3] (fun v wr=>∃k:Nat,s≤k∧k≤64*n∧v=.int .i64 k∧Hid (∀j,s≤j→j<k→bitN ws j=false)∧Hid (Blk wr w.heap.size #[.int .i64 (s:Nat),.slice a n cap] 105)∧Hid (Same w wr)) (fun v _=>64*n - (intOf v).toNat)
 case atStart=>exact⟨s,Nat.le_refl _,hn3,rfl,by intro j h1 h2;omega,Blk.new w _ _,((Kept.refl _ w).alloc _).drewN _⟩
 case round=>
  obtain⟨k,hk1,hk2,rfl,hz,hB,hs⟩:=hrel
  have q0:wr.cell? ⟨w.heap.size,0,none⟩=some (.int .i64 (s:Nat)):=hB.out.cell 0 rfl
  have q1:wr.cell? ⟨w.heap.size,1,none⟩=some (.slice a n cap):=hB.out.cell 1 rfl
  by_cases hlt:k<64*n
  ·have hlt':(k:Int)<64*(n:Int):=by omega
   have C:=qh (BIT.out k wr hs.out (by omega))
   cases hb:bitN ws k
   ·have CC:=qh (C.out.mono (R':=fun e w'=>e=.returned (.bool false)∧Same wr w') fun _ _ h=>by rw[hb]at h;exact h)
    have HB:=qh hb;clear hb
    go_wp2_with(go_at_call 143;refine CC.out.mono ?_;rintro e w2 ⟨rfl,hk⟩;have K2:=qh hk;clear hk)
    go_roundw
    case rel=>exact⟨k+1,by omega,by omega,by go_num,by show∀j,s≤j→j<k+1→bitN ws j=false;intro j h1 h2;exact if h:j<k then hz.out j h1 h else by rw[show j=k from by omega];exact HB.out,hB.out.kept K2.out (fun h=>h),hs.out.trans K2.out⟩
    case measure=>simp[intOf];omega
   ·have CC:=qh (C.out.mono (R':=fun e w'=>e=.returned (.bool true)∧Same wr w') fun _ _ h=>by rw[hb]at h;exact h)
    have HB:=qh hb;clear hb
    go_wp2_with(go_at_call 143;refine CC.out.mono ?_;rintro e w2 ⟨rfl,hk⟩;have K2:=qh hk;clear hk)
    go_ret
    exact⟨4,rfl,.inr ⟨rfl,k,hk1,hlt,HB.out⟩,hs.out.trans K2.out⟩
  ·have e:k=64*n:=by omega
   subst e
   go_wp2
   go_ret
   exact⟨0,rfl,.inl ⟨rfl,hz.out⟩,hs.out⟩
theorem rm_check(s:Int)(a:Option Addr)(cap:Nat)(ws:List Nat)(w:World)(hw:Words ws)(hat:NatsAt w .u64 a ws):
 Calls Tryz.prog 142 #[mapV s a ws.length cap] w fun e w'=>e=.returned (.int .i64 (if mapOK s ws then 0 else 4))∧Same w w':=by
 by_cases h1:0≤s
 ·by_cases h2:s≤4096
  ·obtain⟨S,rfl⟩:=Int.eq_ofNat_of_zero_le h1
   by_cases h3:ws.length=(S+63) / 64
   ·refine(rb_check_bits S a cap ws w (by omega) hat h3).mono ?_
    rintro e w' ⟨r,rfl,⟨rfl,hz⟩|⟨rfl,n,hn1,hn2,hb⟩,hs⟩
    ·rw[(mapOK_iff hw).2 ⟨by omega,h3,hz⟩];exact⟨rfl,hs⟩
    ·have:mapOK (S:Int) ws=false:=by
      rw[Bool.eq_false_iff]
      intro h
      have:=((mapOK_iff hw).1 h).2.2 n hn1 hn2
      rw[this]at hb;cases hb
     rw[this];exact⟨rfl,hs⟩
   ·have:mapOK (S:Int) ws=false:=by simp[mapOK,h3]
    rw[this]
    exact rb_check_len S a ws.length cap w (by omega) h3
  ·rw[mapOK_neg (by omega)]
   exact rb_check_size s a ws.length cap w (.inr (by omega))
 ·rw[mapOK_neg (by omega)]
  exact rb_check_size s a ws.length cap w (.inl (by omega))
end
section
open Go.RowKit
def inB(s:Int)(ws:List Nat)(n:Int):Bool:=mapOK s ws&&(decide (0≤n)&&decide (n<s))
def hasM(s:Int)(ws:List Nat)(n:Int):Bool:=inB s ws n&&bitN ws n.toNat
theorem inB_index{s:Int}{ws:List Nat}{n:Int}(h:inB s ws n=true):0≤n∧n<s∧s≤4096∧n.toNat / 64<ws.length∧ws.length≤64:=by
 simp only[inB,Bool.and_eq_true,decide_eq_true_eq]at h
 have:=mapOK_pos h.1
 have:=mapOK_len h.1
 omega
theorem bm_in(s:Int)(a:Option Addr)(cap:Nat)(ws:List Nat)(n:Int)(w:World)(hat:NatsAt w .u64 a ws):
 Calls Tryz.prog 54 #[mapV s a ws.length cap,.int .i64 n] w fun e w'=>e=.returned (.bool (inB s ws n))∧Same w w':=by
 have CK:=qh fun w' (h:NatsAt w' .u64 a ws)=>bm_check s a cap ws w' h
 have HA:=qh hat;clear hat
 cases hm:mapOK s ws
 ·have HE:Hid (inB s ws n=false):=by show _=_;simp[inB,hm]
  have CC:=qh fun w' (h:NatsAt w' .u64 a ws)=>(CK.out w' h).mono (R':=fun e w''=>e=.returned (.int .i64 4)∧Same w' w'') fun _ _ h=>by rw[hm]at h;exact h
  clear hm CK
  go_enter Tryz.func54,Tryz.ntmps54
  go_wp2_with fail
  refine Calls.boxes1 ?_
  intro W g1 k1 _
  refine(CC.out W (HA.out.same k1)).mono ?_
  rintro e w2 ⟨rfl,k2⟩
  have K:=qh (k1.trans k2)
  clear g1 k1 k2
  go_wp2
  go_ret
  exact⟨by rw[HE.out];rfl,K.out⟩
 ·have CC:=qh fun w' (h:NatsAt w' .u64 a ws)=>(CK.out w' h).mono (R':=fun e w''=>e=.returned (.int .i64 0)∧Same w' w'') fun _ _ h=>by rw[hm]at h;exact h
  have HE:Hid (inB s ws n=(decide (0≤n)&&decide (n<s))):=by show _=_;simp[inB,hm]
  clear hm CK
  by_cases h0:0≤n
  ·have HE2:Hid (inB s ws n=decide (n<s)):=by show _=_;rw[HE.out];simp[h0]
   go_enter Tryz.func54,Tryz.ntmps54
   go_wp2_with fail
   refine Calls.boxes1 ?_
   intro W g1 k1 _
   refine(CC.out W (HA.out.same k1)).mono ?_
   rintro e w2 ⟨rfl,k2⟩
   have K:=qh (k1.trans k2)
   have G1:=g1.kept k2 (fun h=>h)
   have q0:w2.cell? ⟨w.heap.size,0,none⟩=some (.int .i64 s):=G1.cell 0 rfl
   clear g1 k1 k2 G1
   go_wp2
   go_ret
   exact⟨by rw[HE2.out];rfl,K.out⟩
  ·have HE2:Hid (inB s ws n=false):=by show _=_;rw[HE.out];simp[h0]
   have hd:decide (0≤n)=false:=decide_eq_false h0
   go_enter Tryz.func54,Tryz.ntmps54
   go_wp2_with fail
   refine Calls.boxes1 ?_
   intro W g1 k1 _
   refine(CC.out W (HA.out.same k1)).mono ?_
   rintro e w2 ⟨rfl,k2⟩
   have K:=qh (k1.trans k2)
   clear g1 k1 k2
   go_wp2
   go_ret
   exact⟨by rw[HE2.out];rfl,K.out⟩
theorem and_one(x:Nat)(h:x<18446744073709551616):bits .and .u64 (x:Int) 1=((x % 2:Nat):Int):=by
 have:=u64_and_nat x 1 h (by decide)
 rw[show((1:Nat):Int)=1 from rfl,nat_mask1]at this
 exact this
theorem bit_test(x k:Nat)(h:x<18446744073709551616):(bits .and .u64 ((x:Int) / 2^k) 1==1)=x.testBit k:=by
 have e:(x:Int) / 2^k=((x / 2^k:Nat):Int):=by simp
 rw[e,and_one _ (Nat.lt_of_le_of_lt (Nat.div_le_self _ _) h),Bool.eq_iff_iff,←testBit_div,beq_iff_eq]
 generalize x / 2^k=y
 omega
theorem bm_has(s:Int)(a:Option Addr)(cap:Nat)(ws:List Nat)(n:Int)(w:World)(hw:Words ws)(hat:NatsAt w .u64 a ws):
 Calls Tryz.prog 24 #[mapV s a ws.length cap,.int .i64 n] w fun e w'=>e=.returned (.bool (hasM s ws n))∧Same w w':=by
 have CK:=qh fun w' (h:NatsAt w' .u64 a ws)=>bm_in s a cap ws n w' h
 have HA:=qh hat;clear hat
 cases hm:inB s ws n
 ·have HE:Hid (hasM s ws n=false):=by show _=_;simp[hasM,hm]
  have CC:=qh fun w' (h:NatsAt w' .u64 a ws)=>(CK.out w' h).mono (R':=fun e w''=>e=.returned (.bool false)∧Same w' w'') fun _ _ h=>by rw[hm]at h;exact h
  clear hm CK
  go_enter Tryz.func24,Tryz.ntmps24
  go_wp2_with fail
  refine Calls.boxes1 ?_
  intro W g1 k1 _
  refine(CC.out W (HA.out.same k1)).mono ?_
  rintro e w2 ⟨rfl,k2⟩
  have K:=qh (k1.trans k2)
  clear g1 k1 k2
  go_wp2
  go_ret
  exact⟨by rw[HE.out];rfl,K.out⟩
 ·have CC:=qh fun w' (h:NatsAt w' .u64 a ws)=>(CK.out w' h).mono (R':=fun e w''=>e=.returned (.bool true)∧Same w' w'') fun _ _ h=>by rw[hm]at h;exact h
  obtain⟨i0,i1,i2,i3,i4⟩:=inB_index hm
  obtain⟨b,off,x,rfl,hb,hx,hc⟩:=HA.out.at i3
  have hx':ws.getD (n.toNat / 64) 0=x:=by rw[List.getD,hx];rfl
  have HE:Hid (hasM s ws n=(bits .and .u64 ((x:Int) / 2^(n.toNat % 64)) 1==1)):=by
   show _=_
   rw[bit_test x _ (hw x (List.mem_of_getElem? hx))]
   simp[hasM,hm,bitN,←hx']
  clear hm CK hx hx'
  obtain⟨N,rfl⟩:=Int.eq_ofNat_of_zero_le i0
  simp only[Int.toNat_natCast]at*
  have HC:=qh hc;clear hc
  generalize ws.length=l at*
  go_enter Tryz.func24,Tryz.ntmps24
  go_wp2_with fail
  refine Calls.boxes1 ?_
  intro W g1 k1 _
  refine(CC.out W (HA.out.same k1)).mono ?_
  rintro e w2 ⟨rfl,k2⟩
  have G1:=g1.kept k2 (fun h=>h)
  have q1:w2.cell? ⟨w.heap.size,1,none⟩=some (.slice (some ⟨b,off,none⟩) l cap):=G1.cell 1 rfl
  have q2:w2.cell? ⟨b,off+N / 64,none⟩=some (.int .u64 (x:Nat)):=((k1.trans k2).cell (p:=⟨b,off+N / 64,none⟩) hb (fun h=>h)).trans HC.out
  have K:=qh (k1.trans k2)
  clear g1 k1 k2 G1
  go_wp2
  go_ret
  exact⟨by rw[HE.out];rfl,K.out⟩
end
end Go.Proofs.YtmiglhlbhbfodaaGreatDoor
