/- GRs: Rs1, Rs2, Rs3, Rs4. -/
import Derived.Test.YtmiglhlbhbfodaaGreatDoorGStA
import Derived.Test.YtmiglhlbhbfodaaGreatDoorGRBlk
set_option maxHeartbeats 3200000
set_option maxRecDepth 100000
namespace Go.Proofs.YtmiglhlbhbfodaaGreatDoor
section
open Go.RowKit Go.Sort Go.Shelf
def numI(b:List Nat):Int:=if 1099511627776<low b then -1 else(low b:Nat)
theorem low_take_le(b:List Nat):∀i,i≤b.length→low (b.take i)≤low (b.take (i+1)):=fun i hi=>by
 rcases Nat.lt_or_ge i b.length with h|h
 ·have:=low_take_succ b i b[i] (List.getElem?_eq_getElem h)
  omega
 ·rw[List.take_of_length_le h,List.take_of_length_le (by omega)]
  exact Nat.le_refl _
theorem low_take_all(b:List Nat):∀k i,i+k≤b.length→low (b.take i)≤low (b.take (i+k))
 |0,_,_=>Nat.le_refl _
 |k+1,i,h=>Nat.le_trans (low_take_all b k i (by omega)) (low_take_le b (i+k) (by omega))
section
attribute [local go_sem ↓] exec_app semAt_app
attribute [local go_sem] isApp_lit appA appX
theorem rs_eight(n:Nat)(hn:n<9223372036854775808)(w:World):
 Calls Tryz.prog 160 #[.int .i64 (n:Nat)] w fun e w'=>(∃v,e=.returned v∧OwnN w' w.heap.size 5 .u8 v (be 8 n))∧Same w w':=by
 go_enter Tryz.func160,Tryz.ntmps160
 go_wp2_with fail
 go_loopw [0,3,4] (fun q v t wr=>∃i:Nat,t=.int .i64 i∧i≤8∧q=.int .i64 ((n / 256^i:Nat):Int)∧OwnN wr w.heap.size 5 .u8 v (be i n)∧Same w wr) (fun _ _ t _=>8 - (intOf t).toNat)
 case atStart=>exact⟨0,rfl,by omega,by simp,World.ownsRow_nil _ _ _ 1,Kept.refl _ _⟩
 case round=>
  obtain⟨i,rfl,hi,rfl,ho,hk⟩:=hrel
  have O:=qh ho;have K:=qh hk
  clear ho hk
  by_cases hgo:i<8
  ·have g1:(i:Int)<8:=by omega
   obtain⟨m,hm⟩:∃m,n / 256^i=m:=⟨_,rfl⟩
   have hml:m≤n:=by rw[←hm];exact Nat.div_le_self _ _
   have HB:=qh (show be (i+1) n=(m % 256)::be i n from by rw[be_head,hm])
   have HD:=qh (show n / 256^(i+1)=m / 256 from by rw[Nat.pow_succ,←Nat.div_div_eq_div_mul,hm])
   rw[hm]
   obtain⟨a,l,c,rfl,hl,hnil,hat,hc⟩:=O.out.rd
   have hx:(Value.int .u8 ((m:Int) % 256))=.int .u8 ((m % 256:Nat):Int):=by simp
   have B1:Blk (wr.alloc (.cells #[.int .u8 ((m:Int) % 256)] 5)) wr.heap.size ([m % 256].map fun x=>Value.int .u8 ((x:Nat):Int)).toArray 5:=by
    simp only[List.map_cons,List.map_nil,←hx]
    exact Blk.new _ _ _
   have kA:Same wr (wr.alloc (.cells #[.int .u8 ((m:Int) % 256)] 5)):=(Kept.refl _ _).alloc _
   have o1:=OwnN.blk (base:=wr.heap.size) (n:=1) B1 rfl (Nat.le_refl _) (by unfold maxLen;simp)
   obtain⟨v',w',hr,ho',hgr, -⟩:=run_appendN (P:=Tryz.prog) _ 32 32 wr.heap.size 5 .u8 1 Tryz.underlying32 u8Info (by decide) _ [m % 256] o1 a l c (be i n) hl.out (hat.out.same kA) hnil.out (by rw[be_length];simp;omega) kA.size
   have KF:=qh (show Same w w' from(K.out.trans kA).grown hgr (fun k hk hlt=>by have:=(World.ownsRow.lt o1 k hk).1;have:=K.out.size;omega))
   have OF:=qh (show OwnN w' w.heap.size 5 .u8 v' (be (i+1) n)from by rw[HB.out];exact ho'.base K.out.size)
   obtain⟨aok,aV,aW⟩:=app_of hr
   clear hr ho' hgr o1 B1 kA hx hl hnil hat hc hm
   go_wp2_with fail
   go_roundw
   case rel=>exact⟨i+1,by go_num,by omega,by rw[HD.out];simp,OF.out,KF.out⟩
   case measure=>simp[intOf];omega
  ·have h8:i=8:=by omega
   subst h8
   clear hi hgo
   go_wp2_with fail
   go_ret
   exact⟨⟨_,rfl,O.out⟩,K.out⟩
end
theorem rs_number(a:Option Addr)(l c:Nat)(b:List Nat)(hl:l=b.length)(h8:b.length=8)(hb:Bts b)(w:World)(hat:NatsAt w .u8 a b):
 Calls Tryz.prog 159 #[.slice a l c] w fun e w'=>e=.returned (.int .i64 (numI b))∧Same w w':=by
 obtain⟨g,off,rfl⟩:∃g off,a=some ⟨g,off,none⟩:=by
  rcases hat with q|⟨g,off,q,_⟩
  ·rw[q]at h8;cases h8
  ·exact⟨g,off,q⟩
 have AT:=qh hat;have BB:=qh hb;have H8:=qh h8
 have hl8:l=8:=by omega
 subst hl8
 obtain⟨R,hR⟩:∃R:Int,numI b=R:=⟨_,rfl⟩
 have HR:=qh hR
 rw[hR]
 clear hat hb h8 hl hR
 go_enter Tryz.func159,Tryz.ntmps159
 go_wp2_with fail
 go_loopw [3,4] (fun q t wr=>∃i:Nat,t=.int .i64 i∧i≤8∧q=.int .i64 ((low (b.take i):Nat):Int)∧low (b.take i)≤281474976710912∧Same w wr) (fun _ t _=>8 - (intOf t).toNat)
 case atStart=>exact⟨0,rfl,by omega,rfl,by simp[low],Kept.refl _ _⟩
 case round=>
  obtain⟨i,rfl,hi,rfl,hle,hk⟩:=hrel
  have K:=qh hk
  clear hk
  have t8:b.take 8=b:=List.take_of_length_le (by rw[H8.out];exact Nat.le_refl _)
  have LA:=qh (show low (b.take i)≤low b from by
   have:=low_take_all b (8 - i) i (by rw[H8.out];omega)
   rw[show i+(8 - i)=8 from by omega,t8]at this
   exact this)
  by_cases hgo:i<8
  ·have g1:(i:Int)<8:=by omega
   have hil:i<b.length:=by rw[H8.out];exact hgo
   obtain⟨bk,o,x,e, -,hx,hcl⟩:=AT.out.at hil
   cases e
   have hx256:x<256:=BB.out x (List.mem_of_getElem? hx)
   have HS:=qh (low_take_succ b i x hx)
   obtain⟨m,hm⟩:∃m,low (b.take i)=m:=⟨_,rfl⟩
   rw[hm]at hle LA HS ⊢
   have ck:=fun w' (k:Same w w')=>(k.cell (p:=⟨g,off+i,none⟩) (World.block_lt_of_cell? w ⟨g,off+i,none⟩ hcl) (fun h=>h)).trans hcl
   have cw:=ck wr K.out
   clear hx hcl hm ck t8
   by_cases hbig:1099511627776<m
   ·have g2:(1099511627776:Int)<(m:Int):=by omega
    have E:=qh (show R= -1 from by rw[←HR.out];unfold numI;rw[if_pos (by have:=LA.out;omega)])
    go_wp2_with fail
    go_ret
    exact⟨by rw[E.out];rfl,K.out⟩
   ·have g2:¬(1099511627776:Int)<(m:Int):=by omega
    go_wp2_with fail
    go_roundw
    case rel=>exact⟨i+1,by go_num,by omega,by rw[HS.out];exact congrArg (Value.int .i64) (by omega),by rw[HS.out];omega,K.out⟩
    case measure=>simp[intOf];omega
  ·have h8:i=8:=by omega
   subst h8
   rw[t8]at hle ⊢
   clear t8
   obtain⟨m,hm⟩:∃m,low b=m:=⟨_,rfl⟩
   unfold numI at HR
   rw[hm]at hle HR ⊢
   by_cases hbig:1099511627776<m
   ·have g2:(1099511627776:Int)<(m:Int):=by omega
    have E:=qh (show R= -1 from by rw[←HR.out,if_pos hbig])
    go_wp2_with fail
    go_ret
    exact⟨by rw[E.out];rfl,K.out⟩
   ·have g2:¬(1099511627776:Int)<(m:Int):=by omega
    have E:=qh (show R=(m:Nat)from by rw[←HR.out,if_neg hbig])
    go_wp2_with fail
    go_ret
    exact⟨by rw[E.out];rfl,K.out⟩
end
section
open Go.RowKit Go.Sort Go.Shelf
theorem numI_max(N:Nat)(s:List Nat):max (N:Int) (numI s)=((max N (genS s):Nat):Int):=by
 unfold numI genS
 split<;>omega
theorem cell_grown{w:World}{p:Addr}{v:Value}(h:w.cell? p=some v)(d:Nat)(os:Array Obj):(grow (redrawn w d) os).cell? p=some v:=cell_regrown (w:=w) h d os
theorem rs_seen(a:Option Addr)(n c:Nat)(bs:List (List Nat))(hn:n=bs.length)(hl:n≤1000)(hb:∀b∈bs,Bts b)(w:World)(hat:RowsAt w a bs):
 Calls Tryz.prog 137 #[.slice a n c] w fun e w'=>e=.returned (.int .i64 ((seenSl bs:Nat):Int))∧Same w w':=by
 have HN:=qh hn;have HAT:=qh hat;have HB:=qh hb
 clear hn hat hb
 go_enter Tryz.func137,Tryz.ntmps137
 go_wp2_with fail
 go_loopw [3,4] (fun v t wr=>∃(i:Nat),t=.int .i64 i∧i≤n∧v=.int .i64 ((seenSl (bs.take i):Nat):Int)∧Same w wr) (fun _ t _=>n - (intOf t).toNat)
 case atStart=>exact⟨0,rfl,by omega,rfl,Kept.refl _ _⟩
 case round=>
  obtain⟨i,rfl,hi,rfl,hk⟩:=hrel
  have K:=qh hk
  clear hk
  by_cases hgo:i<n
  ·have hil:i<bs.length:=by have:=HN.out;omega
   have TK:=qh (seenSl_take hil)
   have BB:=qh (HB.out bs[i] (List.getElem_mem _))
   obtain⟨bk,off,ra,rn,rc,rfl,hbk,hrn,hrc,hcc⟩:=rows_at HAT.out hil
   obtain⟨c0,hra⟩:=hcc _ K.out
   obtain⟨b,hbe⟩:∃b,bs[i]=b:=⟨_,rfl⟩
   rw[hbe]at TK BB hrn hra
   obtain⟨N,hN⟩:∃N,seenSl (bs.take i)=N:=⟨_,rfl⟩
   rw[hN]at TK ⊢
   have g1:(i:Int)<(n:Int):=by omega
   have g0:(0:Int)≤(i:Int):=by omega
   clear hcc hbe hN
   by_cases h:b.length=256
   ·have SE:=qh (show seen1 N b=max N (max (genS (frontS b)) (genS (backS b)))from by unfold seen1;rw[if_pos h])
    obtain⟨x,o,rfl⟩:∃x o,ra=some ⟨x,o,none⟩:=by
     rcases hra with q|⟨x,o,q,_⟩
     ·rw[q]at h;cases h
     ·exact⟨x,o,q⟩
    have hr256:rn=256:=by omega
    subst hr256
    have hf:NatsAt wr .u8 (some ⟨x,o,none⟩) (frontS b):=hra.take 8
    have hbk2:NatsAt wr .u8 (some ⟨x,o+248,none⟩) (backS b):=by
     unfold backS
     rw[h]
     exact hra.drop 248
    have C1:=qh (fun d os=>Calls.quiet_samK (rs_number (some ⟨x,o,none⟩) 8 rc (frontS b) (frontS_len h).symm (frontS_len h) (frontS_bts BB.out) (grow (redrawn wr d) os) (hf.same (Kept.of_below (below_regrown wr d os)))))
    have C2:=qh (fun d os=>Calls.quiet_samK (rs_number (some ⟨x,o+248,none⟩) 8 (rc - 248) (backS b) (backS_len h).symm (backS_len h) (backS_bts BB.out) (grow (redrawn wr d) os) (hbk2.same (Kept.of_below (below_regrown wr d os)))))
    have EQ:=qh (show max (max (N:Int) (numI (frontS b))) (numI (backS b))=((seen1 N b:Nat):Int)from by rw[SE.out,numI_max,numI_max];omega)
    have cg:=fun d os=>cell_grown c0 d os
    generalize numI (frontS b)=A at C1 EQ
    generalize numI (backS b)=B at C2 EQ
    clear hra hf hbk2 hrn SE h hbk
    go_wp2_with fail
    refine wp_region_quiet_below (by kernel_rfl) (by kernel_rfl) ?_
    repeat(first|go_big_quiet_step (with_reducible first|exact C1.out _ _|exact C2.out _ _)|quiet_step (with_reducible first|exact C1.out _ _|exact C2.out _ _))
    refine wpQuiet_nil ?_
    intro _ hw'
    obtain⟨⟨dq,osq⟩,hw''⟩:=hw'
    subst hw''
    have kq:=qh (show Same wr _ from Kept.of_below (below_regrown wr dq osq))
    have KQ:=qh (K.out.trans kq.out)
    have E2:(if(if(N:Int)<A then A else(N:Int))<B then B else if(N:Int)<A then A else(N:Int))=((seen1 N b:Nat):Int):=by
     rw[←EQ.out]
     split<;>split<;>omega
    rw[E2]
    clear E2 EQ cg C1 C2 kq
    go_wp2_with fail
    go_roundw
    case rel=>exact⟨i+1,by go_num,by omega,by rw[TK.out],KQ.out⟩
    case measure=>simp[intOf];omega
   ·have SE:=qh (show seen1 N b=N from by unfold seen1;rw[if_neg h])
    have g2:((rn:Int)==256)=false:=by simp;omega
    clear hra hrn h
    go_wp2_with fail
    go_roundw
    case rel=>exact⟨i+1,by go_num,by omega,by rw[TK.out,SE.out],K.out⟩
    case measure=>simp[intOf];omega
  ·have hin:i=n:=by omega
   subst hin
   have TA:=qh (show bs.take i=bs from List.take_of_length_le (by have:=HN.out;omega))
   rw[TA.out]
   obtain⟨N,hN⟩:∃N,seenSl bs=N:=⟨_,rfl⟩
   rw[hN]
   have HNN:=qh hN
   clear hN TA
   go_wp2_with fail
   go_ret
   exact⟨by rw[HNN.out];rfl,K.out⟩
theorem strB_ne{xs ys:List Nat}(hx:Bts xs)(hy:Bts ys)(h:xs≠ys):((strN xs).toList==(strN ys).toList)=false:=by rw[str_beq hx hy];exact decide_eq_false h
theorem rs_stamp(a:Option Addr)(l c:Nat)(b:List Nat)(hl:l=b.length)(hc:l≤c)(hb:Bts b)(w:World)(hat:NatsAt w .u8 a b):
 Calls Tryz.prog 181 #[.slice a l c] w fun e w'=>e=.returned (.tuple #[.int .i64 (((stampE b).getD 0:Nat):Int),.bool (stampE b).isSome])∧Same w w':=by
 obtain⟨q,hq⟩:∃q,stampE b=q:=⟨_,rfl⟩
 have HQ:=qh hq
 rw[hq]
 clear hq
 by_cases h:b.length=256
 ·obtain⟨x,o,rfl⟩:∃x o,a=some ⟨x,o,none⟩:=by
   rcases hat with q|⟨x,o,q,_⟩
   ·rw[q]at h;cases h
   ·exact⟨x,o,q⟩
  have hl256:l=256:=by omega
  subst hl256
  have hf:NatsAt w .u8 (some ⟨x,o,none⟩) (frontS b):=hat.take 8
  have hbk:NatsAt w .u8 (some ⟨x,o+248,none⟩) (backS b):=by
   unfold backS
   rw[h]
   exact hat.drop 248
  have V1:=qh (fun d os=>conv_str (some ⟨x,o,none⟩) 8 c (frontS b) (grow (redrawn w d) os) (frontS_len h).symm (hf.same (Kept.of_below (below_regrown w d os))))
  have V2:=qh (fun d os=>conv_str (some ⟨x,o+248,none⟩) 8 (c - 248) (backS b) (grow (redrawn w d) os) (backS_len h).symm (hbk.same (Kept.of_below (below_regrown w d os))))
  have C1:=qh (fun d os=>Calls.quiet_samK (rs_number (some ⟨x,o,none⟩) 8 c (frontS b) (frontS_len h).symm (frontS_len h) (frontS_bts hb) (grow (redrawn w d) os) (hf.same (Kept.of_below (below_regrown w d os)))))
  have NB:=qh (fun w' (k:Same w w')=>rs_number (some ⟨x,o,none⟩) 8 c (frontS b) (frontS_len h).symm (frontS_len h) (frontS_bts hb) w' (hf.same k))
  have BF:=qh (frontS_bts hb);have BK:=qh (backS_bts hb)
  unfold stampE at HQ
  generalize frontS b=f at C1 NB V1 HQ BF
  generalize backS b=k at V2 HQ BK
  clear hat hf hbk hl
  have v1:=V1.out
  have v2:=V2.out
  clear V1 V2
  by_cases hfk:f=k
  ·subst hfk
   by_cases hg:1≤genS f
   ·have E:=qh (show q=some (genS f)from by rw[←HQ.out,if_pos ⟨h,rfl,hg⟩])
    have N1:numI f=((genS f:Nat):Int):=by
     unfold genS at hg ⊢
     unfold numI
     split<;>rename_i z
     ·rw[if_pos z]at hg;omega
     ·rfl
    have g3:¬numI f<1:=by omega
    rw[N1]at C1 NB g3
    rw[E.out]
    generalize genS f=G at*
    clear HQ BF BK h hg N1 E
    go_enter Tryz.func181,Tryz.ntmps181
    go_wp2_with fail
    refine wp_region_quiet_below (by kernel_rfl) (by kernel_rfl) ?_
    repeat(first|go_big_quiet_step (with_reducible exact C1.out _ _)|quiet_step (with_reducible exact C1.out _ _))
    refine wpQuiet_nil ?_
    intro _ hw'
    obtain⟨⟨dq,osq⟩,hw''⟩:=hw'
    subst hw''
    have KQ:=qh (show Same w _ from Kept.of_below (below_regrown w dq osq))
    clear v1 v2 C1
    go_wp2_with fail
    with_reducible refine(NB.out _ KQ.out).mono ?_
    rintro e w2 ⟨rfl,k2⟩
    have K2:=qh (KQ.out.trans k2)
    clear k2 NB
    go_wp2_with fail
    go_ret2
    exact⟨rfl,K2.out⟩
   ·have E:=qh (show q=none from by rw[←HQ.out,if_neg (fun z=>hg z.2.2)])
    have g3:numI f<1:=by
     unfold genS at hg
     unfold numI
     split<;>rename_i z
     ·omega
     ·rw[if_neg z]at hg;omega
    rw[E.out]
    generalize numI f=G at*
    clear HQ BF BK h hg E NB
    go_enter Tryz.func181,Tryz.ntmps181
    go_wp2_with fail
    refine wp_region_quiet_below (by kernel_rfl) (by kernel_rfl) ?_
    repeat(first|go_big_quiet_step (with_reducible exact C1.out _ _)|quiet_step (with_reducible exact C1.out _ _))
    refine wpQuiet_nil ?_
    intro _ hw'
    obtain⟨⟨dq,osq⟩,hw''⟩:=hw'
    subst hw''
    have KQ:=qh (show Same w _ from Kept.of_below (below_regrown w dq osq))
    clear v1 v2 C1
    go_wp2_with fail
    go_ret2
    exact⟨rfl,KQ.out⟩
  ·have E:=qh (show q=none from by rw[←HQ.out,if_neg (fun z=>hfk z.2.1)])
   have q1:=strB_ne BF.out BK.out hfk
   have q2:(!((strN f).toList==(strN k).toList))=true:=by rw[q1];rfl
   have q3:((strN f).toList !=(strN k).toList)=true:=q2
   rw[E.out]
   clear HQ BF BK h E NB hfk
   go_enter Tryz.func181,Tryz.ntmps181
   go_wp2_with fail
   refine wp_region_quiet_below (by kernel_rfl) (by kernel_rfl) ?_
   repeat(first|go_big_quiet_step (with_reducible exact C1.out _ _)|quiet_step (with_reducible exact C1.out _ _))
   refine wpQuiet_nil ?_
   intro _ hw'
   obtain⟨⟨dq,osq⟩,hw''⟩:=hw'
   subst hw''
   have KQ:=qh (show Same w _ from Kept.of_below (below_regrown w dq osq))
   clear v1 v2 C1 q1 q2 q3
   go_wp2_with fail
   go_ret2
   exact⟨rfl,KQ.out⟩
 ·have E:=qh (show q=none from by rw[←HQ.out];unfold stampE;rw[if_neg (fun z=>h z.1)])
  have g1:((l:Int)==256)=false:=by simp;omega
  have g2:((l:Int) !=256)=true:=by simp;omega
  have C1:Hid (∀(d:Nat) (os:Array Obj),True):=fun _ _=>trivial
  rw[E.out]
  clear HQ E h hat hl
  go_enter Tryz.func181,Tryz.ntmps181
  go_wp2_with fail
  refine wp_region_quiet_below (by kernel_rfl) (by kernel_rfl) ?_
  repeat(first|go_big_quiet_step (fail)|quiet_step (fail))
  refine wpQuiet_nil ?_
  intro _ hw'
  obtain⟨⟨dq,osq⟩,hw''⟩:=hw'
  subst hw''
  have kq:=qh (show Same w _ from Kept.of_below (below_regrown w dq osq))
  clear C1 g1 g2
  go_wp2_with fail
  go_ret2
  exact⟨rfl,kq.out⟩
end
section
open Go.RowKit Go.Sort Go.Shelf
theorem nat_app{w:World}{base:Nat}{v:Value}{xs:List Nat}(h:OwnN w base 5 .u8 v xs)(hb:base≤w.heap.size)(a:Option Addr)(m c:Nat)(ys:List Nat)(hm:m=ys.length)(hat:NatsAt w .u8 a ys)(hnil:a=none→c=0)(hl:xs.length+ys.length≤100000):
 ∃v' w',(Builtin.append_ #[32,32] 32 #[v,.slice a m c]).run Tryz.prog w=.ok v' w'∧OwnN w' base 5 .u8 v' (xs++ys)∧Kept (fun j=>base≤j) w w':=by
 obtain⟨v',w',hr,ho,hg, -⟩:=run_appendN (P:=Tryz.prog) w 32 32 base 5 .u8 1 Tryz.underlying32 u8Info (by decide) v xs h a m c ys hm hat hnil (by omega) hb
 refine⟨v',w',hr,ho,?_⟩
 exact((Kept.refl (fun j=>v.ownBlock=some j) w).grown hg (fun k hk _=>hk)).mono (fun j _ hj=>(World.ownsRow.lt h j hj).1)
theorem lit_own(w:World)(C:Array Value)(xs:List Nat)(hC:C.toList=xs.map fun x=>.int .u8 ((x:Nat):Int))(n:Nat)(hn:n=xs.length)(hm:xs.length≤1000):OwnN (w.alloc (.cells C 5)) w.heap.size 5 .u8 (.slice (some ⟨w.heap.size,0,none⟩) n n) xs:=
 OwnN.blk (by rw[←hC,Array.toArray_toList];exact Blk.new _ _ _) hn (Nat.le_refl _) (by unfold maxLen;omega)
section
attribute [local go_sem ↓] exec_app semAt_app
attribute [local go_sem] isApp_lit appA appX
theorem rs_put(g:Int)(hg63:g<9223372036854775808)(a:Option Addr)(l c:Nat)(b:List Nat)(hl:l=b.length)(hb:Bts b)(hlen:b.length≤100000)(hnil:a=none→c=0)(w:World)(hat:NatsAt w .u8 a b):
 Calls Tryz.prog 139 #[.int .i64 g,.slice a l c] w (SputPost w g b):=by
 obtain⟨R,hR⟩:∃R,SputPost w g b=R:=⟨_,rfl⟩
 rw[hR]
 have HR:=qh hR
 clear hR
 have NO:=qh (fun(er:Nat) (he:putSlE g b.length=er) (h0:er≠0) W (k:Same w W)=>show R (.returned (.tuple #[.slice none 0 0,.int .i64 (er:Nat)])) W from by
  rw[←HR.out]
  unfold SputPost
  rw[he,if_neg h0]
  exact⟨⟨_,rfl,RowsOwn.nil _ _⟩,k⟩)
 by_cases h9:g<1∨1099511627776<g
 ·have FI:=qh (NO.out 9 (by unfold putSlE;rw[if_pos h9]) (by decide) w (Kept.refl _ _))
  clear NO hat hb hl hnil
  rcases h9 with h|h
  ·go_enter Tryz.func139,Tryz.ntmps139
   go_wp2_with fail
   exact FI.out
  ·have h':¬g<1:=by omega
   go_enter Tryz.func139,Tryz.ntmps139
   go_wp2_with fail
   exact FI.out
 obtain⟨G,rfl⟩:=Int.eq_ofNat_of_zero_le (show 0≤g by omega)
 have p1:¬((G:Nat):Int)<1:=by omega
 have p2:¬(1099511627776:Int)<((G:Nat):Int):=by omega
 by_cases h5:954<b.length
 ·have FI:=qh (NO.out 5 (by unfold putSlE;rw[if_neg h9,if_pos h5]) (by decide) w (Kept.refl _ _))
  rw[←hl]at h5
  have h5':(954:Int)<(l:Int):=by omega
  clear NO hat hb hl hnil h9 h5
  go_enter Tryz.func139,Tryz.ntmps139
  go_wp2_with fail
  exact FI.out
 have h5':¬(954:Int)<(l:Int):=by omega
 have YES:=qh (fun v W (k:Same w W) (ho:RowsOwn W w.heap.size v (putSl G b))=>show R (.returned (.tuple #[v,.int .i64 0])) W from by
  rw[←HR.out]
  unfold SputPost
  have he:putSlE ((G:Nat):Int) b.length=0:=by unfold putSlE;rw[if_neg h9,if_neg h5]
  rw[he,if_pos rfl]
  exact⟨⟨_,rfl,ho⟩,k⟩)
 have HL:=qh hl;have H5:=qh h5;have HB:=qh hb;have HAT:=qh hat;have HN:=qh hnil
 have BA:=qh (show bodyAll b=[b.length / 256,b.length % 256]++b++List.replicate (954 - b.length) 0 from by unfold bodyAll;simp)
 have BL:=qh (bodyAll_len (b:=b) (by omega))
 have EI:=qh (fun w'=>rs_eight G (by omega) w')
 clear NO hat hb hl hnil h9 h5 hlen hg63
 go_enter Tryz.func139,Tryz.ntmps139
 have hl9:=H5.out
 have hle:=HL.out
 obtain⟨C,hC⟩:∃C:Array Value,(#[.int .u8 ((l:Int) / 256),.int .u8 ((l:Int) % 256)]:Array Value)=C:=⟨_,rfl⟩
 have o1:=lit_own w C [l / 256,l % 256] (by rw[←hC];simp) 2 rfl (by simp)
 rw[←hC]at o1
 have kA:Same w (w.alloc (.cells #[.int .u8 ((l:Int) / 256),.int .u8 ((l:Int) % 256)] 5)):=(Kept.refl _ _).alloc _
 obtain⟨v2,w2,hr2,o2,k2⟩:=nat_app o1 kA.size a l c b HL.out (HAT.out.same kA) HN.out (by simp;omega)
 obtain⟨a2,l2,c2,rfl,hl2,hn2, -, -⟩:=o2.rd
 have hl2':l2=l+2:=by have:=hl2.out;simp at this;omega
 subst hl2'
 have s1:b.length≤954:=by omega
 obtain⟨v3,w3,hr3,o3,g3⟩:=run_append_zeros (P:=Tryz.prog) w2 32 3 9 32 5 .i64 .i64 w.heap.size Tryz.underlying32 Tryz.underlying3 Tryz.underlying9 (by kernel_rfl) _ _ o2 (954 - l) (by simp;omega) (Nat.le_trans kA.size k2.size)
 have K3:=qh (show Same w w3 from((kA.step k2 (fun i hi q=>by omega)).grown g3 (fun k hk hlt=>by have:=(World.ownsRow.lt o2 k hk).1;omega)))
 have O3:=qh (show OwnN w3 w.heap.size 5 .u8 v3 (bodyAll b)from by rw[BA.out,←HL.out];exact o3)
 have gz:IntKind.i64.wrap (956 - ((l:Int)+2))=((954 - l:Nat):Int):=by rw[IntKind.wrap_i64];omega
 obtain⟨aok,aV,aW⟩:=app_of hr2
 obtain⟨aok3,aV3,aW3⟩:=app_of hr3
 clear hr2 o2 k2 hr3 o3 g3 o1 kA hC hl2 hn2 s1 hle hl9
 go_wp2_with fail
 obtain⟨gA,cA,rfl, -, -,hcA,hnA⟩:=O3.out.begins (by rw[BA.out];simp)
 have NA:=qh hnA
 have hsz3:=K3.out.size
 rw[BL.out]at hcA ⊢
 have HCA:=qh hcA
 clear aok aV aW aok3 aV3 aW3 hnA O3
 go_loopw [7,8] (fun v t wr=>∃i:Nat,t=.int .i64 i∧i≤4∧RowsOwn wr w3.heap.size v ((List.range i).map (slotSec G b))∧Same w3 wr) (fun _ t _=>4 - (intOf t).toNat)
 case atStart=>exact⟨0,rfl,by omega,RowsOwn.nil _ _,Kept.refl _ _⟩
 case round=>
  obtain⟨i,rfl,hi,hr,hk⟩:=hrel
  have RW:=qh hr;have K:=qh hk
  clear hr hk
  by_cases hgo:i<4
  ·have g1:(i:Int)<4:=by omega
   have g0:(0:Int)≤(i:Int):=by omega
   have PL:=qh (partSl_len (b:=b) (by have:=H5.out;omega) hgo)
   have SS:=qh (show stmp G++[i]++partSl b i++stmp G=slotSec G b i from rfl)
   have NP:=qh (fun w' (k:Same w3 w')=>show NatsAt w' .u8 (some ⟨gA,i*239,none⟩) (partSl b i)from by
    have:=((NA.out.drop (i*239)).take 239).same k
    rw[Nat.zero_add]at this
    exact this)
   have E1:=qh (EI.out wr)
   go_wp2_with fail
   with_reducible refine E1.out.mono ?_
   rintro e wa ⟨⟨va,rfl,oa⟩,ka⟩
   obtain⟨vb,wb,hrb,ob,kb⟩:=nat_push oa ka.size (by rw[be_length];omega) i (i:Int) rfl
   have sab:wr.heap.size≤wb.heap.size:=Nat.le_trans ka.size kb.size
   have kab:Same wr wb:=ka.step kb (fun j hj q=>by omega)
   obtain⟨ab,lb,cb,rfl, -, -, -, -⟩:=ob.rd
   obtain⟨vc,wc,hrc,oc,kc⟩:=nat_app ob sab (some ⟨gA,i*239,none⟩) 239 (cA - i*239) (partSl b i) PL.out.symm (NP.out wb (K.out.trans kab)) (fun q=>by cases q) (by rw[PL.out,List.length_append,be_length];simp)
   have KC:=qh (show Same wr wc from kab.step kc (fun j hj q=>by omega))
   have OC:=qh oc
   obtain⟨aok,aV,aW⟩:=app_of hrb
   obtain⟨aok2,aV2,aW2⟩:=app_of hrc
   have gs1:(i:Int)*239+239≤956:=by omega
   have gs2:(i:Int)*239+239 - (i:Int)*239=239:=by omega
   have hca:=HCA.out
   clear oa ka hrb ob kb sab kab hrc oc kc E1
   go_wp2_with fail
   have E2:=qh (EI.out wc)
   with_reducible refine E2.out.mono ?_
   rintro e wd ⟨⟨vd,rfl,od⟩,kd⟩
   obtain⟨ad,ld,cd,rfl,hld,hnd,hatd, -⟩:=od.rd
   have kcd:=KC.out.trans kd
   obtain⟨ve,we,hre,oe,ke⟩:=nat_app (OC.out.same kd) (by have:=kcd.size;omega) ad ld cd (be 8 G) hld.out hatd.out hnd.out (by rw[List.length_append,List.length_append,PL.out,be_length];simp)
   have kce:Same wr we:=kcd.step ke (fun j hj q=>by omega)
   obtain⟨gf,cf,rfl,hgf,hgfl,hcf,hnf⟩:=oe.begins (by simp)
   have KE:=qh (K.out.trans kce)
   have hlen:(be 8 G++[i]++partSl b i++be 8 G).length=256:=by simp only[List.length_append,PL.out,be_length,List.length_cons,List.length_nil]
   rw[hlen]at hcf hre
   obtain⟨v',w',hr4,ho4,hk4⟩:=rows_append (RW.out.same kce) (by have:=KE.out.size;omega) (by simp;omega) gf 256 cf _ hlen.symm hcf (by have:=K.out.size;omega) hgfl (RW.out.below hgf) hnf
   obtain⟨aok5,aV5,aW5⟩:=app_of hre
   obtain⟨aok6,aV6,aW6⟩:=app_of hr4
   have KF:=qh (show Same w3 w' from KE.out.step hk4 (fun j hj q=>by omega))
   have RF:=qh (show RowsOwn w' w3.heap.size v' ((List.range (i+1)).map (slotSec G b))from by
    rw[List.range_succ,List.map_append,List.map_cons,List.map_nil,←SS.out]
    exact ho4)
   clear aok aV aW aok2 aV2 aW2 E2 od kd hld hnd hatd kcd hre oe ke kce hgf hgfl hcf hnf hlen hr4 ho4 hk4 gs1 gs2
   go_wp2_with fail
   go_roundw
   case rel=>exact⟨i+1,by go_num,by omega,RF.out,KF.out⟩
   case measure=>simp[intOf];omega
  ·have h4:i=4:=by omega
   subst h4
   have FI:=qh (YES.out _ wr (K3.out.trans K.out) (by
    obtain⟨rs,z1,z2,z3⟩:=RW.out
    exact⟨rs,ownsRow_base z1 hsz3,z2,fun i r x hr hx=>⟨(z3 i r x hr hx).1,fun y hy=>⟨Nat.le_trans hsz3 ((z3 i r x hr hx).2 y hy).1,((z3 i r x hr hx).2 y hy).2⟩⟩⟩))
   clear hi hgo
   go_wp2_with fail
   exact FI.out
end
end
section
open Go.RowKit Go.Sort Go.Shelf
def SgetC(w:World)(bs:List (List Nat))(e:Ending)(w':World):Prop:=(∃ra rc,e=.returned (.tuple #[.int .i64 (((getSl bs).1:Nat):Int),.slice ra (getSl bs).2.1.length rc,.int .i64 (((getSl bs).2.2:Nat):Int)])∧NatsAt w' .u8 ra (getSl bs).2.1∧(getSl bs).2.1.length≤rc∧(ra=none→(getSl bs).2.1=[])∧rc≤9223372036854775807)∧Same w w'
section
attribute [local go_sem ↓] exec_app semAt_app
attribute [local go_sem] isApp_lit appA appX
theorem rs_get(a:Option Addr)(c:Nat)(bs:List (List Nat))(h4:bs.length=4)(hb:∀b∈bs,Bts b)(w:World)(hat:RowsAt w a bs):
 Calls Tryz.prog 165 #[.slice a 4 c] w (SgetC w bs):=by
 obtain⟨SP,hSP⟩:∃SP,SgetC w bs=SP:=⟨_,rfl⟩
 rw[hSP]
 have F3:=qh (fun(h:okSl bs=false) W (k:Same w W)=>show SP (.returned (.tuple #[.int .i64 0,.slice none 0 0,.int .i64 3])) W from by
  rw[←hSP]
  unfold SgetC getSl
  rw[if_pos h]
  exact⟨⟨none,0,rfl,.inl rfl,Nat.le_refl _,fun _=>rfl,by decide⟩,k⟩)
 have F4:=qh (fun(h:okSl bs=true) (h2:954<lenSl bs∨putSl (genSl bs) (bodySl bs)≠bs) W (k:Same w W)=>show SP (.returned (.tuple #[.int .i64 0,.slice none 0 0,.int .i64 4])) W from by
  rw[←hSP]
  unfold SgetC getSl
  rw[if_neg (by rw[h];decide)]
  by_cases q:954<lenSl bs
  ·rw[if_pos q]
   exact⟨⟨none,0,rfl,.inl rfl,Nat.le_refl _,fun _=>rfl,by decide⟩,k⟩
  ·rw[if_neg q,if_neg (h2.resolve_left q)]
   exact⟨⟨none,0,rfl,.inl rfl,Nat.le_refl _,fun _=>rfl,by decide⟩,k⟩)
 have F0:=qh (fun(h:okSl bs=true) (h1:¬954<lenSl bs) (h2:putSl (genSl bs) (bodySl bs)=bs) W (k:Same w W) ra rl rc (hl:rl=(bodySl bs).length) (hn:NatsAt W .u8 ra (bodySl bs)) (hc:rl≤rc) (hnil:ra=none→bodySl bs=[]) (hcm:rc≤9223372036854775807)=>show SP (.returned (.tuple #[.int .i64 ((genSl bs:Nat):Int),.slice ra rl rc,.int .i64 0])) W from by
  rw[←hSP]
  subst hl
  unfold SgetC getSl
  rw[if_neg (by rw[h];decide),if_neg h1,if_pos h2]
  exact⟨⟨ra,rc,rfl,hn,hc,hnil,hcm⟩,k⟩)
 clear hSP
 have HB:=qh hb;have HAT:=qh hat;have H4:=qh h4
 clear hb hat h4
 have hp0:0<bs.length:=by rw[H4.out];decide
 obtain⟨bk,off,ra,rn,rc,rfl,hbk,hrn,hrc,hcc⟩:=rows_at HAT.out hp0
 have hgen:genSl bs=(stampE bs[0]).getD 0:=by
  unfold genSl
  rw[List.getD_eq_getElem?_getD,List.getElem?_eq_getElem hp0]
  rfl
 have ST0:=qh (fun w' (k:Same w w')=>rs_stamp ra rn rc bs[0] hrn hrc (HB.out _ (List.getElem_mem _)) w' (hcc w' k).2)
 rw[←hgen]at ST0
 have C0:=qh (fun w' (k:Same w w')=>(hcc w' k).1)
 obtain⟨gen,hge⟩:∃gen,genSl bs=gen:=⟨_,rfl⟩
 rw[hge]at ST0 F4 F0
 have HGE:=qh hge
 have c0:=C0.out w (Kept.refl _ _)
 rw[Nat.add_zero]at c0
 clear hcc hgen hge hrn hrc
 go_enter Tryz.func165,Tryz.ntmps165
 go_wp2_with fail
 with_reducible refine(ST0.out _ (Kept.refl _ _)).mono ?_
 rintro e w1 ⟨rfl,k1⟩
 have K1:=qh k1
 clear k1 ST0 C0 c0
 go_wp2_with fail
 go_loopw [7,8] (fun v t wr=>∃(i:Nat),t=.int .i64 i∧i≤4∧OwnN wr w.heap.size 5 .u8 v (allSl (bs.take i))∧(∀(j:Nat) (hj:j<bs.length),j<i→stampE bs[j]=some gen)∧Same w wr) (fun _ t _=>4 - (intOf t).toNat)
 case atStart=>exact⟨0,rfl,by omega,World.ownsRow_nil _ _ _ _,(fun j _ h=>by omega),K1.out⟩
 case round=>
  obtain⟨i,rfl,hi,ho,hst,hk⟩:=hrel
  have K:=qh hk
  have O:=qh ho
  have HST:=qh hst
  clear hk ho hst
  by_cases hgo:i<4
  ·have hil:i<bs.length:=by rw[H4.out];exact hgo
   have AT:=qh (allSl_take hil)
   obtain⟨_,_,ra,rn,rc,q,hbk2,hrn,hrc,hcc⟩:=rows_at HAT.out hil
   cases q
   obtain⟨c0,hra⟩:=hcc _ K.out
   have BB:=qh (HB.out bs[i] (List.getElem_mem _))
   have S1:=qh (rs_stamp ra rn rc bs[i] hrn hrc BB.out wr hra)
   have OF:=qh (fun(h:stampE bs[i]≠some gen)=>okSl_false hil (by rw[HGE.out];exact h))
   have OT:=qh (fun(h:stampE bs[i]=some gen)=>show∀(j:Nat) (hj:j<bs.length),j<i+1→stampE bs[j]=some gen from fun j hj q=>by
    rcases Nat.lt_or_ge j i with z|z
    ·exact HST.out j hj z
    ·obtain rfl:j=i:=by omega
     exact h)
   have RA:=qh (fun w' (k:Same w w')=>(hcc w' k).2)
   have CA:=qh (fun w' (k:Same w w')=>(hcc w' k).1)
   obtain⟨b,hbe⟩:∃b,bs[i]=b:=⟨_,rfl⟩
   rw[hbe]at AT BB hrn hra S1 OF OT RA
   have HRN:=qh hrn
   have g1:(i:Int)<4:=by omega
   have g0:(0:Int)≤(i:Int):=by omega
   have HRC:=qh hrc
   clear hcc hra hbe hrn HST hrc
   obtain⟨o,hso⟩:∃o,stampE b=o:=⟨_,rfl⟩
   rw[hso]at S1 OF OT
   have HSO:=qh hso
   clear hso
   go_wp2_with fail
   with_reducible refine S1.out.mono ?_
   rintro e w2 ⟨rfl,k2⟩
   have K2:=qh (K.out.trans k2)
   have O2:=qh (O.out.same k2)
   clear k2 S1 c0 K O
   cases o with
   |none=>
    have FI:=qh (F3.out (OF.out (by simp)))
    go_wp2_with fail
    (try simp only[Exit.inBlock,Exit.then])
    refine bodyPost_ret (results_tmp3 rfl _ _ _) rfl ?_
    exact FI.out _ K2.out
   |some g=>
    by_cases hg:g=gen
    ·subst hg
     obtain⟨h256,hg1,hg2⟩:=stampE_len HSO.out
     have OT2:=qh (OT.out rfl)
     obtain⟨bk3,off3,hra3⟩:∃bk3 off3,ra=some ⟨bk3,off3,none⟩:=by
      rcases RA.out w (Kept.refl _ _)with h0|⟨x1,x2,h0,_⟩
      ·rw[h0]at h256;cases h256
      ·exact⟨x1,x2,h0⟩
     subst hra3
     have hrn2:rn=256:=by rw[HRN.out,h256]
     subst hrn2
     have nA:=((RA.out w2 K2.out).drop 9).take 239
     have hrc2:=HRC.out
     obtain⟨v',w',hr,ho',hgr, -⟩:=run_appendN (P:=Tryz.prog) w2 32 32 w.heap.size 5 .u8 1 Tryz.underlying32 u8Info (by decide) _ _ O2.out (some ⟨bk3,off3+9,none⟩) 239 (rc - 9) ((b.drop 9).take 239) (by rw[List.length_take,List.length_drop,h256];rfl) nA (fun h=>by cases h) (by
      have h1:(allSl (bs.take i)).length≤4*239:=by
       have h3:∀l:List (List Nat),(allSl l).length≤l.length*239:=by
        intro l
        unfold allSl
        induction l with
        |nil=>simp
        |cons x l ih=>rw[List.flatMap_cons,List.length_append,List.length_cons,List.length_take];omega
       have h2:=h3 (bs.take i)
       rw[List.length_take,H4.out]at h2
       omega
      rw[List.length_take]
      omega) K2.out.size
     have KF:=qh (K2.out.grown hgr (fun k hk hlt=>by have:=(World.ownsRow.lt O2.out k hk).1;omega))
     have OF2:=qh (show OwnN w' w.heap.size 5 .u8 v' (allSl (bs.take (i+1)))from by rw[AT.out];exact ho')
     obtain⟨aok,aV,aW⟩:=app_of hr
     have gc:248≤rc:=by omega
     have cc2:=CA.out w2 K2.out
     clear hr ho' hgr nA h256 hg1 hg2
     go_wp2_with fail
     exact⟨⟨i+1,by go_num,by omega,OF2.out,OT2.out,KF.out⟩,by simp[intOf];omega⟩
    ·have FI:=qh (F3.out (OF.out (by simpa using hg)))
     have g5:¬(g:Int)=(gen:Int):=by omega
     go_wp2_with fail
     (try simp only[Exit.inBlock,Exit.then])
     refine bodyPost_ret (results_tmp3 rfl _ _ _) rfl ?_
     exact FI.out _ K2.out
  ·have hi4:i=4:=by omega
   subst hi4
   have OKS:=qh (okSl_true (bs:=bs) (fun j hj=>by rw[HGE.out];exact HST.out j hj (by rw[←H4.out];exact hj)))
   have HGR:=qh (stampE_len (HST.out 0 hp0 (by decide))).2
   rw[List.take_of_length_le (by rw[H4.out];exact Nat.le_refl _)]at O
   have hlen:(allSl bs).length=956:=by
    have h3:∀l:List (List Nat),(∀b∈l,b.length=256)→(allSl l).length=l.length*239:=by
     intro l
     unfold allSl
     induction l with
     |nil=>intro _;simp
     |cons x l ih=>intro h;rw[List.flatMap_cons,List.length_append,List.length_cons,List.length_take,List.length_drop,h x (by simp),ih (fun b hb=>h b (by simp[hb]))];omega
    rw[h3 bs (fun b hb=>by
     obtain⟨j,hj,rfl⟩:=List.mem_iff_getElem.1 hb
     exact(stampE_len (HST.out j hj (by rw[←H4.out];exact hj))).1),H4.out]
   obtain⟨g9,c9,hv9,hg9,hg9l,hc9,hn9⟩:=O.out.begins (fun h=>by rw[h]at hlen;cases hlen)
   rw[hlen]at hv9 hc9
   subst hv9
   have hbts:=allSl_bts HB.out
   have n0:=nats_get hn9 (i:=0) (by rw[hlen];decide)
   have n1:=nats_get hn9 (i:=1) (by rw[hlen];decide)
   rw[Nat.zero_add]at n0 n1
   have hor:(256:Int)*(((allSl bs).getD 0 0:Nat):Int)+(((allSl bs).getD 1 0:Nat):Int)=((256*(allSl bs).getD 0 0+(allSl bs).getD 1 0:Nat):Int):=by omega
   obtain⟨N,hN⟩:∃N,lenSl bs=N:=⟨_,rfl⟩
   rw[show 256*(allSl bs).getD 0 0+(allSl bs).getD 1 0=N from hN]at hor
   have hx0:=getD_bts hbts 0
   have hx1:=getD_bts hbts 1
   have NB:=qh (show bodySl bs=((allSl bs).drop 2).take N from by unfold bodySl;rw[hN])
   rw[hN]at F4 F0
   have HNN:=qh (show NatsAt wr .u8 (some ⟨g9,0,none⟩) (allSl bs)from hn9)
   have HLEN:=qh hlen
   have HBT:=qh hbts
   generalize (allSl bs).getD 0 0=x0 at n0 hor hx0
   generalize (allSl bs).getD 1 0=x1 at n1 hor hx1
   have q0:=fun dq os=>cell_regrown (w:=wr) n0 dq os
   have q1:=fun dq os=>cell_regrown (w:=wr) n1 dq os
   clear n0 n1 hN hlen hbts hn9 hi hgo O
   go_wp2_with fail
   refine wp_region_quiet_below (by kernel_rfl) (by kernel_rfl) ?_
   repeat(first|go_big_quiet_step (fail)|quiet_step (fail))
   refine wpQuiet_nil ?_
   intro _ hw'
   obtain⟨⟨dq,osq⟩,hw''⟩:=hw'
   subst hw''
   have kq:=qh (show Same wr _ from Kept.of_below (below_regrown wr dq osq))
   obtain⟨w5,hw5⟩:∃w5,grow (redrawn wr dq) osq=w5:=⟨_,rfl⟩
   rw[hw5]at kq ⊢
   have K5:=qh (K.out.trans kq.out)
   have N5:=qh (HNN.out.same kq.out)
   clear hw5 kq q0 q1 K HNN
   by_cases hbig:954<N
   ·have FI:=qh (F4.out OKS.out (.inl hbig))
    have g1:(954:Int)<(N:Int):=by omega
    go_wp2_with fail
    (try simp only[Exit.inBlock,Exit.then])
    refine bodyPost_ret (results_tmp3 rfl _ _ _) rfl ?_
    exact FI.out _ K5.out
   ·have g1:¬(954:Int)<(N:Int):=by omega
    obtain⟨B,hB⟩:∃B,bodySl bs=B:=⟨_,rfl⟩
    rw[hB]at NB F0 F4
    have hBl:B.length=N:=by rw[NB.out,List.length_take,List.length_drop,HLEN.out];omega
    have hBb:Bts B:=by rw[NB.out];exact(HBT.out.drop 2).take N
    have nB:NatsAt w5 .u8 (some ⟨g9,2,none⟩) B:=by
     rw[NB.out]
     have:=(N5.out.drop 2).take N
     rw[Nat.zero_add]at this
     exact this
    have kE:Same w5 (w5.alloc (.cells #[] 5)):=(Kept.refl _ _).alloc _
    have o5:=lit_own w5 #[] [] rfl 0 rfl (by decide)
    obtain⟨v6,w6,hr6,ho6,hk6⟩:=nat_app o5 kE.size (some ⟨g9,2,none⟩) N (c9 - 2) B hBl.symm (nB.same kE) (fun h=>by cases h) (by simp;omega)
    rw[List.nil_append]at ho6
    have k6:Same w5 w6:=kE.step hk6 (fun j hj q=>by omega)
    have HBL:=qh hBl;have HBB:=qh hBb
    have hc9':N+2≤c9:=by omega
    have hn956:2+N≤956:=by omega
    obtain⟨a6,l6,c6,rfl,hl6,hnil6,hat6,hc6⟩:=OwnN.rd ho6
    obtain rfl:l6=N:=by rw[hl6.out,HBL.out]
    have K6:=qh (K5.out.trans k6)
    have A6:=qh hat6.out
    obtain⟨aok6,aV6,aW6⟩:=app_of hr6
    clear hB nB hBl hBb
    have he0:putSlE (gen:Int) B.length=0:=by
     have:=HGR.out
     unfold putSlE
     rw[if_neg (by omega),if_neg (by rw[HBL.out];exact hbig)]
    have PU:=qh ((rs_put (gen:Int) (by have:=HGR.out;omega) a6 l6 c6 B HBL.out.symm HBB.out (by have:=HBL.out;omega) hnil6.out w6 A6.out).mono (R':=fun e w'=>(∃v,e=.returned (.tuple #[v,.int .i64 0])∧RowsOwn w' w6.heap.size v (putSl gen B))∧Same w6 w') (fun e w' h=>by
     obtain⟨⟨v,h1,h2⟩,h3⟩:=h
     rw[he0,if_pos rfl,Int.toNat_natCast]at h2
     rw[he0]at h1
     exact⟨⟨v,h1,h2⟩,h3⟩))
    clear k6 ho6 he0 hl6 hr6 hk6 o5 kE
    go_wp2_with fail
    with_reducible refine PU.out.mono ?_
    rintro e w7 ⟨⟨v7,rfl,hr7⟩,k7⟩
    obtain⟨a7,c7,rfl,hra7⟩:=hr7.rowsAt
    have R7:=qh hra7
    have K7:=qh (K6.out.trans k7)
    have A7:=qh (A6.out.same k7)
    rw[putSl_len]
    clear k7 hr7 hra7 PU K6 A6
    go_wp2_with fail
    go_loopw [15] (fun t wr=>∃(i:Nat),t=.int .i64 i∧i≤4∧(putSl gen B).take i=bs.take i∧Same w7 wr) (fun t _=>4 - (intOf t).toNat)
    case atStart=>exact⟨0,rfl,by omega,rfl,Kept.refl _ _⟩
    case round=>
     obtain⟨i,rfl,hi,he,hk⟩:=hrel
     have K:=qh hk
     have HE:=qh he
     clear hk he
     by_cases hgo:i<4
     ·have hil:i<bs.length:=by rw[H4.out];exact hgo
      have hil2:i<(putSl gen B).length:=by rw[putSl_len];exact hgo
      obtain⟨_,_,xa,xn,xc,q, -,hxn,hxc,hcc⟩:=rows_at HAT.out hil
      cases q
      obtain⟨k7a,o7,ya,yn,yc,rfl, -,hyn,hyc,hcd⟩:=rows_at R7.out hil2
      obtain⟨c0,hxa⟩:=hcc _ (K7.out.trans K.out)
      obtain⟨d0,hya⟩:=hcd _ K.out
      have PB:=qh (putSl_bts (g:=gen) (b:=B) (by rw[HBL.out];omega) HBB.out _ (List.getElem_mem hil2))
      have QB:=qh (HB.out _ (List.getElem_mem hil))
      have V1:=qh (fun dq os=>conv_str ya yn yc (putSl gen B)[i] (grow (redrawn wr dq) os) hyn (hya.same (Kept.of_below (below_regrown wr dq os))))
      have V2:=qh (fun dq os=>conv_str xa xn xc bs[i] (grow (redrawn wr dq) os) hxn (hxa.same (Kept.of_below (below_regrown wr dq os))))
      have cg:=fun dq os=>cell_grown c0 dq os
      have dg:=fun dq os=>cell_grown d0 dq os
      have T1:=qh (List.take_append_getElem hil)
      have T2:=qh (List.take_append_getElem hil2)
      have NE:=qh (show(putSl gen B)[i]≠bs[i]→putSl gen B≠bs from fun h q=>h (by congr 1))
      generalize (putSl gen B)[i]=X at PB V1 T2 NE
      generalize bs[i]=Y at QB V2 T1 NE
      have v1:=V1.out
      have v2:=V2.out
      have g2:(i:Int)<4:=by omega
      have g0:(0:Int)≤(i:Int):=by omega
      clear hcc hcd hxa hya hxn hxc hyn hyc V1 V2
      by_cases hXY:X=Y
      ·have TT:=qh (show(putSl gen B).take (i+1)=bs.take (i+1)from by rw[←T1.out,←T2.out,HE.out,hXY])
       subst hXY
       go_wp2_with fail
       refine wp_region_quiet_below (by kernel_rfl) (by kernel_rfl) ?_
       repeat(first|go_big_quiet_step (fail)|quiet_step (fail))
       refine wpQuiet_nil ?_
       intro _ hw'
       obtain⟨⟨dq,osq⟩,hw''⟩:=hw'
       subst hw''
       have kq:=qh (show Same wr _ from Kept.of_below (below_regrown wr dq osq))
       have KQ:=qh (K.out.trans kq.out)
       clear v1 v2 cg dg kq
       go_wp2_with fail
       exact⟨⟨i+1,by go_num,by omega,TT.out,KQ.out⟩,by simp[intOf];omega⟩
      ·have q1:=strB_ne PB.out QB.out hXY
       have q2:(!((strN X).toList==(strN Y).toList))=true:=by rw[q1];rfl
       have q3:((strN X).toList !=(strN Y).toList)=true:=q2
       have F4w:=qh (F4.out OKS.out (.inr (NE.out hXY)))
       clear hXY
       go_wp2_with fail
       refine wp_region_quiet_below (by kernel_rfl) (by kernel_rfl) ?_
       repeat(first|go_big_quiet_step (fail)|quiet_step (fail))
       refine wpQuiet_nil ?_
       intro _ hw'
       obtain⟨⟨dq,osq⟩,hw''⟩:=hw'
       subst hw''
       have kq:=qh (show Same wr _ from Kept.of_below (below_regrown wr dq osq))
       have KQ:=qh (K.out.trans kq.out)
       clear v1 v2 cg dg kq q1 q2 q3
       go_wp2_with fail
       (try simp only[Exit.inBlock,Exit.then])
       refine bodyPost_ret (results_tmp3 rfl _ _ _) rfl ?_
       exact F4w.out _ (K7.out.trans KQ.out)
     ·have hi4:i=4:=by omega
      subst hi4
      have hpb:putSl gen B=bs:=by
       have:=HE.out
       rw[List.take_of_length_le (by rw[putSl_len];exact Nat.le_refl _),List.take_of_length_le (by rw[H4.out];exact Nat.le_refl _)]at this
       exact this
      have FI:=qh (F0.out OKS.out hbig hpb wr (K7.out.trans K.out) a6 l6 c6 HBL.out.symm (A7.out.same K.out) hc6.out.1 (fun h=>by
       have h1:=hnil6.out h
       have h2:=hc6.out.1
       exact List.eq_nil_of_length_eq_zero (by rw[HBL.out];omega)) (by have:=hc6.out.2;unfold maxLen at this;omega))
      clear hpb hi hgo
      go_wp2_with fail
      (try simp only[Exit.inBlock,Exit.then])
      refine bodyPost_ret (results_tmp3 rfl _ _ _) rfl ?_
      exact FI.out
end
end
end Go.Proofs.YtmiglhlbhbfodaaGreatDoor
