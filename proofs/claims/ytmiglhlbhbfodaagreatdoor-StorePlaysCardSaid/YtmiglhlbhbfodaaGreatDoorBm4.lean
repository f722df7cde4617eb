/- Walks over package bitmap: Rank. -/
import Derived.Test.YtmiglhlbhbfodaaGreatDoorGFo
set_option maxHeartbeats 400000
set_option maxRecDepth 100000
namespace Go.Proofs.YtmiglhlbhbfodaaGreatDoor
open Go.RowKit
theorem cnt_le(ws:List Nat)(n:Nat):cnt ws n≤n:=by
 induction n with
 |zero=>exact Nat.le_refl _
 |succ n ih=>have:(bitN ws n).toNat≤1:=by cases bitN ws n<;>decide
             simp only[cnt];omega
theorem shl_wrap(x k:Nat):IntKind.u64.wrap ((x:Int)*2^k)=((x*2^k % 18446744073709551616:Nat):Int):=by
 rw[IntKind.wrap_u64]
 simp
theorem bm_rank_pos(s:Nat)(b off cap:Nat)(ws:List Nat)(n:Nat)(w:World)(hw:Words ws)(hm:mapOK s ws=true)(hn:0<n)(hcap:ws.length≤cap)(hat:NatsAt w .u64 (some ⟨b,off,none⟩) ws):
 Calls Tryz.prog 22 #[mapV s (some ⟨b,off,none⟩) ws.length cap,.int .i64 n] w fun e w'=>e=.returned (.int .i64 ((cnt ws (min n s):Nat):Int))∧Same w w':=by
 have CK:=qh fun w' (h:NatsAt w' .u64 (some ⟨b,off,none⟩) ws)=>(bm_check s (some ⟨b,off,none⟩) cap ws w' h).mono (R':=fun e w''=>e=.returned (.int .i64 0)∧Same w' w'') fun _ _ h=>by rw[hm]at h;exact h
 have HA:=qh hat;clear hat
 have hl:ws.length=(s+63) / 64:=by have h2:=mapOK_len hm;rw[Int.toNat_natCast]at h2;exact h2
 have h4:s≤4096:=by have h1:=mapOK_pos hm;omega
 have HW:=qh hw
 clear hm hw
 have hd:¬n=0:=by omega
 generalize hlen:ws.length=l at CK hl hcap ⊢
 have HLen:=qh hlen;clear hlen
 obtain⟨r,hr⟩:∃r,r=cnt ws (min n s):=⟨_,rfl⟩
 rw[←hr]
 have HR:=qh hr;clear hr
 have hl1:s≤64*l:=by omega
 have hl2:64*l≤s+63:=by omega
 have HL:=qh hl;clear hl hn
 by_cases hmin:s<n
 ·go_enter Tryz.func22,Tryz.ntmps22
  go_wp2_with fail
  refine Calls.boxes1 ?_
  intro W g1 k1 _
  refine(CK.out W (HA.out.same k1)).mono ?_
  rintro e w2 ⟨rfl,k2⟩
  have K:=qh (k1.trans k2)
  have G1:=g1.kept k2 (fun h=>h)
  have q0:w2.cell? ⟨w.heap.size,0,none⟩=some (.int .i64 s):=G1.cell 0 rfl
  have q1:w2.cell? ⟨w.heap.size,1,none⟩=some (.slice (some ⟨b,off,none⟩) l cap):=G1.cell 1 rfl
  clear g1 k1 k2 G1
  go_wp2_with fail
  have A2:=qh (HA.out.same K.out)
  go_loop [5,7,25] (fun c x i=>∃(k:Nat) (v:Value),k≤s / 64∧c=.int .i64 ((cnt ws (64*k):Nat):Int)∧x=v∧i=.int .i64 (k:Nat)) (fun _ _ i=>s / 64 - (intOf i).toNat)
  case atStart=>exact⟨0,_,Nat.zero_le _,rfl,rfl,rfl⟩
  case round=>
   obtain⟨k,v,hk,rfl,rfl,rfl⟩:=hrel
   by_cases hlt:k<s / 64
   ·obtain⟨b',off',x,hbe,hb,hx,hc⟩:=A2.out.at (i:=k) (by rw[HLen.out];omega)
    cases hbe
    have hx':ws.getD k 0=x:=by rw[List.getD,hx];rfl
    have C:=qh (bits_ones x w2 (HW.out x (List.mem_of_getElem? hx)))
    have HC:=qh (cnt_word ws k)
    rw[hx']at HC
    have hp:=pop_le 64 x
    have hcl:=cnt_le ws (64*k)
    generalize cnt ws (64*k)=c at*
    generalize pop 64 x=p at*
    clear hx hx' hb
    go_wp2_with(go_at_call 53;refine C.out.mono ?_;rintro e w3 ⟨rfl,rfl⟩)
    go_round
    case rel=>exact⟨k+1,_,by omega,by rw[HC.out];go_num,rfl,by go_num⟩
    case measure=>simp[intOf];omega
   ·have e:k=s / 64:=by omega
    subst e
    clear hlt hk
    by_cases hr:s % 64=0
    ·go_wp2_with fail
     go_ret
     exact⟨by rw[HR.out];exact ret_int (by congr 2;omega),K.out⟩
    ·have hr2:0<s % 64:=by omega
     have hr3:((0:Int)<s % 64):=by omega
     obtain⟨b',off',x,hbe,hb,hx,hc⟩:=A2.out.at (i:=s / 64) (by rw[HLen.out];omega)
     cases hbe
     have hx':ws.getD (s / 64) 0=x:=by rw[List.getD,hx];rfl
     have hs:=pop_shl x (s % 64) (by omega)
     have HC:=qh (cnt_part ws (s / 64) (s % 64) (by omega))
     rw[hx',show 64*(s / 64)+s % 64=s from by omega]at HC
     have C:=qh (bits_ones (x*2^(64 - s % 64) % 18446744073709551616) w2 (by omega))
     rw[hs,←shl_wrap]at C
     have hp:=pop_le (s % 64) x
     have hcl:=cnt_le ws (64*(s / 64))
     have hfin:r=cnt ws s:=HR.out.trans (congrArg (cnt ws) (show min n s=s from by omega))
     rw[←hfin]at HC
     clear hfin HR hs
     generalize cnt ws (64*(s / 64))=c at*
     generalize pop (s % 64) x=p at*
     clear hx hx' hb
     go_wp2_with(go_at_call 53;refine C.out.mono ?_;rintro e w3 ⟨rfl,rfl⟩)
     go_ret
     exact⟨by rw[HC.out];exact ret_int (by go_num),K.out⟩
 ·go_enter Tryz.func22,Tryz.ntmps22
  go_wp2_with fail
  refine Calls.boxes1 ?_
  intro W g1 k1 _
  refine(CK.out W (HA.out.same k1)).mono ?_
  rintro e w2 ⟨rfl,k2⟩
  have K:=qh (k1.trans k2)
  have G1:=g1.kept k2 (fun h=>h)
  have q0:w2.cell? ⟨w.heap.size,0,none⟩=some (.int .i64 s):=G1.cell 0 rfl
  have q1:w2.cell? ⟨w.heap.size,1,none⟩=some (.slice (some ⟨b,off,none⟩) l cap):=G1.cell 1 rfl
  clear g1 k1 k2 G1
  go_wp2_with fail
  have A2:=qh (HA.out.same K.out)
  go_loop [5,7,25] (fun c x i=>∃(k:Nat) (v:Value),k≤n / 64∧c=.int .i64 ((cnt ws (64*k):Nat):Int)∧x=v∧i=.int .i64 (k:Nat)) (fun _ _ i=>n / 64 - (intOf i).toNat)
  case atStart=>exact⟨0,_,Nat.zero_le _,rfl,rfl,rfl⟩
  case round=>
   obtain⟨k,v,hk,rfl,rfl,rfl⟩:=hrel
   by_cases hlt:k<n / 64
   ·obtain⟨b',off',x,hbe,hb,hx,hc⟩:=A2.out.at (i:=k) (by rw[HLen.out];omega)
    cases hbe
    have hx':ws.getD k 0=x:=by rw[List.getD,hx];rfl
    have C:=qh (bits_ones x w2 (HW.out x (List.mem_of_getElem? hx)))
    have HC:=qh (cnt_word ws k)
    rw[hx']at HC
    have hp:=pop_le 64 x
    have hcl:=cnt_le ws (64*k)
    generalize cnt ws (64*k)=c at*
    generalize pop 64 x=p at*
    clear hx hx' hb
    go_wp2_with(go_at_call 53;refine C.out.mono ?_;rintro e w3 ⟨rfl,rfl⟩)
    go_round
    case rel=>exact⟨k+1,_,by omega,by rw[HC.out];go_num,rfl,by go_num⟩
    case measure=>simp[intOf];omega
   ·have e:k=n / 64:=by omega
    subst e
    clear hlt hk
    by_cases hr:n % 64=0
    ·go_wp2_with fail
     go_ret
     exact⟨by rw[HR.out];exact ret_int (by congr 2;omega),K.out⟩
    ·have hr2:0<n % 64:=by omega
     have hr3:((0:Int)<n % 64):=by omega
     obtain⟨b',off',x,hbe,hb,hx,hc⟩:=A2.out.at (i:=n / 64) (by rw[HLen.out];omega)
     cases hbe
     have hx':ws.getD (n / 64) 0=x:=by rw[List.getD,hx];rfl
     have hs:=pop_shl x (n % 64) (by omega)
     have HC:=qh (cnt_part ws (n / 64) (n % 64) (by omega))
     rw[hx',show 64*(n / 64)+n % 64=n from by omega]at HC
     have C:=qh (bits_ones (x*2^(64 - n % 64) % 18446744073709551616) w2 (by omega))
     rw[hs,←shl_wrap]at C
     have hp:=pop_le (n % 64) x
     have hcl:=cnt_le ws (64*(n / 64))
     have hfin:r=cnt ws n:=HR.out.trans (congrArg (cnt ws) (show min n s=n from by omega))
     rw[←hfin]at HC
     clear hfin HR hs
     generalize cnt ws (64*(n / 64))=c at*
     generalize pop (n % 64) x=p at*
     clear hx hx' hb
     go_wp2_with(go_at_call 53;refine C.out.mono ?_;rintro e w3 ⟨rfl,rfl⟩)
     go_ret
     exact⟨by rw[HC.out];exact ret_int (by go_num),K.out⟩
theorem bm_rank_none(a:Option Addr)(cap n:Nat)(hn:0<n)(w:World):
 Calls Tryz.prog 22 #[mapV 0 a 0 cap,.int .i64 n] w fun e w'=>e=.returned (.int .i64 0)∧Same w w':=by
 have CK:=qh fun w'=>(bm_check 0 a cap [] w' (.inl rfl)).mono (R':=fun e w''=>e=.returned (.int .i64 0)∧Same w' w'') fun _ _ h=>h
 have hd:¬n=0:=by omega
 go_enter Tryz.func22,Tryz.ntmps22
 go_wp2_with fail
 refine Calls.boxes1 ?_
 intro W g1 k1 _
 refine(CK.out W).mono ?_
 rintro e w2 ⟨rfl,k2⟩
 have K:=qh (k1.trans k2)
 have G1:=g1.kept k2 (fun h=>h)
 have q0:w2.cell? ⟨w.heap.size,0,none⟩=some (.int .i64 0):=G1.cell 0 rfl
 have q1:w2.cell? ⟨w.heap.size,1,none⟩=some (.slice a 0 cap):=G1.cell 1 rfl
 clear g1 k1 k2 G1
 go_wp2_with fail
 go_loop [5,7,25] (fun c x i=>c=.int .i64 0∧x=undef∧i=.int .i64 0) (fun _ _ _=>0)
 case atStart=>exact⟨rfl,rfl,rfl⟩
 case round=>
  obtain⟨rfl,rfl,rfl⟩:=hrel
  go_wp2_with fail
  go_ret
  exact⟨rfl,K.out⟩
theorem bm_rank_low(s:Int)(a:Option Addr)(cap:Nat)(ws:List Nat)(n:Int)(w:World)(h:mapOK s ws=false∨n≤0)(hat:NatsAt w .u64 a ws):
 Calls Tryz.prog 22 #[mapV s a ws.length cap,.int .i64 n] w fun e w'=>e=.returned (.int .i64 0)∧Same w w':=by
 have CK:=qh fun w' (h:NatsAt w' .u64 a ws)=>bm_check s a cap ws w' h
 have HA:=qh hat;clear hat
 cases hm:mapOK s ws
 ·have CC:=qh fun w' (h:NatsAt w' .u64 a ws)=>(CK.out w' h).mono (R':=fun e w''=>e=.returned (.int .i64 4)∧Same w' w'') fun _ _ h=>by rw[hm]at h;exact h
  clear hm CK h
  generalize ws.length=l at*
  go_enter Tryz.func22,Tryz.ntmps22
  go_wp2_with fail
  refine Calls.boxes1 ?_
  intro W g1 k1 _
  refine(CC.out W (HA.out.same k1)).mono ?_
  rintro e w2 ⟨rfl,k2⟩
  have K:=qh (k1.trans k2)
  clear g1 k1 k2
  go_wp2
  go_ret
  exact⟨rfl,K.out⟩
 ·have CC:=qh fun w' (h:NatsAt w' .u64 a ws)=>(CK.out w' h).mono (R':=fun e w''=>e=.returned (.int .i64 0)∧Same w' w'') fun _ _ h=>by rw[hm]at h;exact h
  have hn:n≤0:=by rcases h with h|h;rw[hm]at h;cases h;exact h
  clear hm CK h
  generalize ws.length=l at*
  go_enter Tryz.func22,Tryz.ntmps22
  go_wp2_with fail
  refine Calls.boxes1 ?_
  intro W g1 k1 _
  refine(CC.out W (HA.out.same k1)).mono ?_
  rintro e w2 ⟨rfl,k2⟩
  have K:=qh (k1.trans k2)
  clear g1 k1 k2
  go_wp2
  go_ret
  exact⟨rfl,K.out⟩
theorem bm_rank(s:Int)(a:Option Addr)(cap:Nat)(ws:List Nat)(n:Int)(w:World)(hw:Words ws)(hcap:ws.length≤cap)(hat:NatsAt w .u64 a ws):
 Calls Tryz.prog 22 #[mapV s a ws.length cap,.int .i64 n] w fun e w'=>e=.returned (.int .i64 ((rankN s ws n:Nat):Int))∧Same w w':=by
 cases hm:mapOK s ws
 ·have:=bm_rank_low s a cap ws n w (.inl hm) hat
  simpa [rankN,hm]using this
 ·have h1:=mapOK_pos hm
  obtain⟨S,rfl⟩:=Int.eq_ofNat_of_zero_le h1.1
  by_cases hn:n≤0
  ·have:=bm_rank_low S a cap ws n w (.inr hn) hat
   have e:(min n (S:Int)).toNat=0:=by omega
   simpa [rankN,hm,e,cnt]using this
  ·obtain⟨N,rfl⟩:=Int.eq_ofNat_of_zero_le (show 0≤n by omega)
   have e:(min (N:Int) (S:Int)).toNat=min N S:=by omega
   have er:rankN S ws N=cnt ws (min N S):=by simp only[rankN,hm,e,if_true]
   rw[er]
   rcases hat with h0|⟨b,off,rfl,hb,hc⟩
   ·subst h0
    have h2:=mapOK_len hm
    rw[Int.toNat_natCast]at h2
    have hS:S=0:=by simp at h2;omega
    subst hS
    have e0:cnt [] (min N 0)=0:=by rw[Nat.min_zero];rfl
    rw[e0]
    exact bm_rank_none a cap N (by omega) w
   ·exact bm_rank_pos S b off cap ws N w hw hm (by omega) hcap (.inr ⟨b,off,rfl,hb,hc⟩)
end Go.Proofs.YtmiglhlbhbfodaaGreatDoor
