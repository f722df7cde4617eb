/- GRBlk: Zer, RCrc, RBlk1, RBlk2, RBlk3, RBlk4, RBlk5. -/
import Derived.Lib.AppendStr
import Derived.Test.YtmiglhlbhbfodaaGreatDoorGBlk
import Derived.Lib.ConvBytes
set_option maxHeartbeats 3200000
set_option maxRecDepth 100000
namespace Go.Proofs.YtmiglhlbhbfodaaGreatDoor
section
open Go.RowKit
theorem strN_len(xs:List Nat):(strN xs).size=xs.length:=by
 unfold strN
 show(List.toArray _).size=_
 simp
theorem strCells_strN(xs:List Nat)(h:Bts xs):Lib.strCells (strN xs)=xs.map fun x=>Value.int .u8 ((x:Nat):Int):=by
 unfold Lib.strCells
 have e:(strN xs).data.toList=xs.map UInt8.ofNat:=by unfold strN;simp
 rw[e,List.map_map]
 apply List.map_congr_left
 intro x hx
 have:=h x hx
 simp[Nat.mod_eq_of_lt this]
theorem run_append_str{P:Program}(w:World)(t u ty e:TypeId)(base:Nat)(ht:P.underlying t=some (.slice e))(hu:P.underlying u=some .string)(hi:(P.info? e).map (fun i=>(i.zero,i.size,i.bytes))=some (some (.int .u8 0),1,1))
 (v:Value) (xs:List Nat) (hown:OwnN w base e .u8 v xs) (ys:List Nat) (hy:Bts ys) (hbytes:xs.length+ys.length≤140737488355328) (hbase:base≤w.heap.size):
 ∃v' w',(Builtin.append_ #[t,u] ty #[v,.string (strN ys)]).run P w=.ok v' w'∧OwnN w' base e .u8 v' (xs++ys)∧w.grownBy w' v.ownBlock:=by
 obtain⟨i,hi,hz0,hz1,hz2⟩:=info_parts hi
 obtain⟨v',w',hr,ho,hg, -⟩:=Lib.run_append_own_string (P:=P) w base t u ty e i ht hu hi hz0 hz1 hz2 v xs.length _ hown (strN ys) (by rw[strN_len];unfold maxLen;omega) (by rw[strN_len];exact hbytes) hbase
 refine⟨v',w',hr,?_,hg⟩
 unfold OwnN
 rw[List.length_append,List.map_append,←strCells_strN ys hy,←strN_len ys]
 exact ho
theorem zeroCells_one(k:IntKind)(n:Nat):Builtin.zeroCells (Value.int k 0).cells n=(List.replicate n (Value.int k 0)).toArray:=by
 rw[show(Value.int k 0).cells=#[Value.int k 0]from rfl]
 unfold Builtin.zeroCells
 apply Array.ext'
 apply List.ext_getElem?
 intro j
 simp[List.getElem?_replicate]
 by_cases h:j<n
 ·simp[h,Nat.mod_one]
 ·simp[h]
theorem append_zeros_eq{P:Program}(w:World)(t tn u ty e:TypeId)(kn kq:IntKind)(ht:P.underlying t=some (.slice e))(htn:P.underlying tn=some (.int kn))(hu:P.underlying u=some .string)(hi:(P.info? e).map (fun i=>(i.zero,i.size,i.bytes))=some (some (.int .u8 0),1,1))
 (a:Option Addr) (l c n:Nat) (hlc:l≤c) (hn:l+n≤140737488355328):
 (Builtin.append_ #[t,tn] ty #[.slice a l c,.int kq n]).run P w=(Builtin.append_ #[t,u] ty #[.slice a l c,.string (strN (List.replicate n 0))]).run P w:=by
 obtain⟨i,hi,hz0,hz1,hz2⟩:=info_parts hi
 have hw:IntKind.i64.wrap (n:Int)=n:=by rw[IntKind.wrap_i64];omega
 have hneg:¬((n:Int)<0):=by omega
 have hb:¬(281474976710656<(n:Int)):=by omega
 have hs:(strN (List.replicate n 0)).size=n:=by rw[strN_len,List.length_replicate]
 have hf:∀W:World,(Builtin.firstCells 1 n (.string (strN (List.replicate n 0)))).run P W=.ok (List.replicate n (Value.int .u8 0)).toArray W:=by
  intro W
  have:=Lib.run_firstCells_string (P:=P) W 1 (strN (List.replicate n 0))
  rw[hs,strCells_strN _ (fun x hx=>by have:=List.eq_of_mem_replicate hx;omega),List.map_replicate]at this
  exact this
 have hz:Builtin.zeroCells (Value.int .u8 0).cells n=(List.replicate n (Value.int .u8 0)).toArray:=zeroCells_one _ _
 have h63:¬(9223372036854775807<((l:Int)+(n:Int))):=by omega
 by_cases hle:l+n≤c
 ·by_cases h0:n=0
  ·subst h0
   have hz0':IntKind.i64.wrap 0=0:=by decide
   simp at hle hf
   have hs:(strN []).size=0:=hs
   simp[Builtin.append_,run_underlying ht,run_underlying htn,run_underlying hu,sizeOf,typeInfo,hi,hz1,asInt,asIntOf,hz0',Builtin.lenOf,hs,hle,hf]
  ·simp[Builtin.append_,run_underlying ht,run_underlying htn,run_underlying hu,sizeOf,typeInfo,zeroValue,hi,hz0,hz1,hz2,asInt,asIntOf,hw,hneg,hb,hz,h0,hle,Builtin.lenOf,hs,hf]
 ·have h48:¬(281474976710656<Builtin.nextslicecap (l+n) c):=by
   have:=growslice_fits (bytes:=1) (need:=l+n) (old:=c) (by omega) (by omega)
   omega
  have h0:n≠0:=by omega
  simp[Builtin.append_,run_underlying ht,run_underlying htn,run_underlying hu,sizeOf,typeInfo,zeroValue,hi,hz0,hz1,hz2,asInt,asIntOf,hw,hneg,hb,hz,h0,h63,h48,hle,Builtin.lenOf,hs,hf]
theorem run_append_zeros{P:Program}(w:World)(t tn u ty e:TypeId)(kn kq:IntKind)(base:Nat)(ht:P.underlying t=some (.slice e))(htn:P.underlying tn=some (.int kn))(hu:P.underlying u=some .string)(hi:(P.info? e).map (fun i=>(i.zero,i.size,i.bytes))=some (some (.int .u8 0),1,1))
 (v:Value) (xs:List Nat) (hown:OwnN w base e .u8 v xs) (n:Nat) (hbytes:xs.length+n≤140737488355328) (hbase:base≤w.heap.size):
 ∃v' w',(Builtin.append_ #[t,tn] ty #[v,.int kq n]).run P w=.ok v' w'∧OwnN w' base e .u8 v' (xs++List.replicate n 0)∧w.grownBy w' v.ownBlock:=by
 obtain⟨v',w',hr,ho,hg⟩:=run_append_str (P:=P) w t u ty e base ht hu hi v xs hown (List.replicate n 0) (fun x hx=>by have:=List.eq_of_mem_replicate hx;omega) (by rw[List.length_replicate];exact hbytes) hbase
 refine⟨v',w',?_,ho,hg⟩
 obtain⟨a,cap,rfl,h1,h2,h3,h4,_⟩:=hown.read
 rw[append_zeros_eq (P:=P) w t tn u ty e kn kq ht htn hu hi a _ cap n h1 hbytes]
 exact hr
theorem run_appendB{P:Program}(w:World)(t ty e:TypeId)(base:Nat)(k:IntKind)(bytes:Nat)(ht:P.underlying t=some (.slice e))(hi:(P.info? e).map (fun i=>(i.zero,i.size,i.bytes))=some (some (.int k 0),1,bytes))(hby:1≤bytes)
 (v:Value) (xs:List Nat) (hown:OwnN w base e k v xs) (ao:Option Addr) (m c:Nat) (ys:List Nat) (hm:m=ys.length) (hat:NatsAt w k ao ys)
 (hbytes:(xs.length+ys.length)*bytes≤140737488355328) (hbase:base≤w.heap.size):
 ∃v' w',(Builtin.append_ #[t,t] ty #[v,.slice ao m c]).run P w=.ok v' w'∧OwnN w' base e k v' (xs++ys)∧w.grownBy w' v.ownBlock∧(v'.ownBlock=v.ownBlock∨v'.ownBlock=some w.heap.size):=by
 cases ao with
 |some ad=>exact run_appendN w t ty base e k bytes ht hi hby v xs hown (some ad) m c ys hm hat (fun h=>by cases h) hbytes hbase
 |none=>
  have hy:ys=[]:=by rcases hat with h|⟨_,_,h,_⟩;exact h;cases h
  subst hy
  obtain rfl:=hm
  obtain⟨i,hi',hz0,hz1,hz2⟩:=info_parts hi
  obtain⟨a,cap,rfl,h1, -⟩:=hown.read
  refine⟨_,w,?_,(by rw[List.append_nil];exact hown),World.grownBy.refl w _,.inl rfl⟩
  cases a with
  |none=>simp[Builtin.append_,run_underlying ht,sizeOf,typeInfo,hi',Builtin.lenOf,Builtin.firstCells,h1]
  |some ad=>simp[Builtin.append_,run_underlying ht,sizeOf,typeInfo,hi',Builtin.lenOf,Builtin.firstCells,h1,storeCells]
end
section
open Go.RowKit Go.Sort
theorem take_four{b:List Nat}(h:b.length=1024):b.take 4=[b.getD 0 0,b.getD 1 0,b.getD 2 0,b.getD 3 0]:=by
 match b,h with
 |x0::x1::x2::x3::b,_=>rfl
theorem drop_four{b:List Nat}(h:b.length=1024):b.drop 4=[b.getD 4 0,b.getD 5 0,b.getD 6 0,b.getD 7 0]++b.drop 8:=by
 match b,h with
 |x0::x1::x2::x3::x4::x5::x6::x7::b,_=>rfl
theorem all_zero_rep{l:List Nat}(h:∀x∈l,x=0):l=List.replicate l.length 0:=List.eq_replicate_iff.2 ⟨rfl,h⟩
theorem seal_again{b:List Nat}(hl:b.length=1024)(hb:Bts b)(h4:b.take 4=fourOf (crcOf (b.drop 4)))(hn:256*b.getD 4 0+b.getD 5 0≤1016):
 sealC ((b.drop 8).take (256*b.getD 4 0+b.getD 5 0))=b↔formOK b:=by
 have b4:=getD_bts hb 4
 have b5:=getD_bts hb 5
 have hd:=drop_four hl
 have hsp:b=b.take 4++b.drop 4:=(List.take_append_drop 4 b).symm
 unfold formOK
 generalize b.getD 4 0=x4 at*
 generalize b.getD 5 0=x5 at*
 generalize b.getD 6 0=x6 at*
 generalize b.getD 7 0=x7 at*
 obtain⟨n,hnn⟩:∃n,256*x4+x5=n:=⟨_,rfl⟩
 rw[hnn]at hn ⊢
 have hxl:((b.drop 8).take n).length=n:=by rw[List.length_take,List.length_drop,hl];omega
 have h8:b.drop 8=(b.drop 8).take n++b.drop (8+n):=by rw[←List.drop_drop,List.take_append_drop]
 have hI:inner ((b.drop 8).take n)=[x4,x5,0,0]++(b.drop 8).take n++List.replicate (1016 - n) 0:=by
  unfold inner
  rw[hxl,show n / 256=x4 from by omega,show n % 256=x5 from by omega]
 have hdl:(b.drop (8+n)).length=1016 - n:=by rw[List.length_drop,hl];omega
 constructor
 ·intro h
  have h1:inner ((b.drop 8).take n)=b.drop 4:=by
   have:(sealC ((b.drop 8).take n)).drop 4=inner ((b.drop 8).take n):=rfl
   rw[←this,h]
  rw[hI,hd]at h1
  simp only[List.cons_append,List.nil_append,List.cons.injEq,true_and]at h1
  refine⟨h1.1.symm,h1.2.1.symm,fun x hx=>?_⟩
  have h2:=h1.2.2
  rw[h8]at h2
  rw[show(List.take n (List.take n (b.drop 8)++b.drop (8+n)))=List.take n (b.drop 8)from by rw[List.take_append_of_le_length (by rw[hxl];exact Nat.le_refl _),List.take_of_length_le (by rw[hxl];exact Nat.le_refl _)]]at h2
  have h3:=List.append_cancel_left h2
  rw[←h3]at hx
  exact List.eq_of_mem_replicate hx
 ·rintro⟨e6,e7,hz⟩
  have hr:=all_zero_rep hz
  rw[hdl]at hr
  have h1:inner ((b.drop 8).take n)=b.drop 4:=by
   rw[hI,hd,e6,e7,List.append_assoc,←hr,←h8]
  unfold sealC
  rw[h1,←h4]
  exact hsp.symm
section
attribute [local go_sem ↓] exec_app semAt_app
attribute [local go_sem] isApp_lit appA appX
theorem rc_seal(a:Option Addr)(n c:Nat)(b:List Nat)(hn:n=b.length)(hb:Bts b)(hnil:n≤c)(w:World)(hat:NatsAt w .u8 a b):
 Calls Tryz.prog 150 #[.slice a n c,.int .i64 1024] w fun e w'=>∃a' c',e=.returned (.tuple #[.slice a' (sealP b).1.length c',.int .i64 ((sealP b).2:Nat)])∧NatsAt w' .u8 a' (sealP b).1∧(sealP b).1.length≤c'∧(∀x,a'=some x→w.heap.size≤x.block)∧Same w w':=by
 subst hn
 by_cases hbig:b.length≤1016
 ·have hbi:¬(1016:Int)<(b.length:Int):=by omega
  have hlb:(b.length:Int)<65536:=by omega
  have e1:sealP b=(sealC b,0):=if_pos hbig
  rw[e1]
  have HE:=qh (sealC_len hbig)
  have IL:=qh (inner_len hbig)
  have IB:=qh (inner_bts hbig hb)
  obtain⟨w1,hw1⟩:∃w1,w1=w.alloc (.cells #[.int .u8 ((b.length:Int) / 256),.int .u8 ((b.length:Int) % 256),.int .u8 0,.int .u8 0] 5):=⟨_,rfl⟩
  have k1:Same w w1:=by rw[hw1];exact(Kept.refl _ w).alloc _
  have e4:(b.length:Int) / 256=((b.length / 256:Nat):Int):=by omega
  have e5:(b.length:Int) % 256=((b.length % 256:Nat):Int):=by omega
  have o1:OwnN w1 w.heap.size 5 .u8 (.slice (some ⟨w.heap.size,0,none⟩) 4 4) [b.length / 256,b.length % 256,0,0]:=by
   refine OwnN.blk (g:=w.heap.size) ?_ rfl (Nat.le_refl _) (by simp[maxLen])
   rw[hw1,e4,e5]
   exact Blk.new w _ _
  obtain⟨v2,w2,hr2,o2,g2, -⟩:=run_appendB (P:=Tryz.prog) w1 32 32 5 w.heap.size .u8 1 Tryz.underlying32 (by kernel_rfl) (by decide) _ _ o1 a b.length c b rfl (hat.same k1) (by simp;omega) k1.size
  obtain⟨a2,l2,c2,rfl,hl2, -, -, -⟩:=o2.rd
  have hl2:l2=4+b.length:=by rw[hl2.out];simp;omega
  have k2:=k1.grownNew g2 (fun k hk=>(World.ownsRow.lt o1 k hk).1)
  obtain⟨v3,w3,hr3,o3,g3⟩:=run_append_zeros (P:=Tryz.prog) w2 32 3 9 32 5 .i64 .i64 w.heap.size Tryz.underlying32 Tryz.underlying3 Tryz.underlying9 (by kernel_rfl) _ _ o2 (1016 - b.length) (by simp;omega) k2.size
  have hI:[b.length / 256,b.length % 256,0,0]++b++List.replicate (1016 - b.length) 0=inner b:=rfl
  rw[hI]at o3
  have k3:=k2.grownNew g3 (fun k hk=>(World.ownsRow.lt o2 k hk).1)
  obtain⟨a3,l3,c3,rfl,hl3, -,n3, -⟩:=o3.rd
  have hl3:l3=1020:=by rw[hl3.out,IL.out]
  rw[show((1016 - b.length:Nat):Int)=1020 - (l2:Int)from by omega]at hr3
  have hl20:(l2:Int)≤1020:=by omega
  subst hl3
  subst hw1
  obtain⟨aok2,aV2,aW2⟩:=app_of hr2
  obtain⟨aok3,aV3,aW3⟩:=app_of hr3
  have N3:=n3
  have K3:=qh k3
  have K2:=qh k2
  have O3:=qh o3
  have HL2:=qh hl2
  clear hr2 hr3 o1 o2 g2 g3 k1 k2 k3 o3 n3 hl2 hl3 e4 e5
  go_enter Tryz.func150,Tryz.ntmps150
  go_wp2_with fail
  refine(cr_ref_of a3 1020 c3 (inner b) IL.out.symm IB.out w3 N3.out (by omega)).mono ?_
  rintro e w' ⟨rfl,rfl⟩
  have hR:=crcOf_lt (inner b) IB.out
  obtain⟨R,hRR⟩:∃R,crcOf (inner b)=R:=⟨_,rfl⟩
  rw[hRR]at hR ⊢
  have hRi:(R:Int)<4294967296:=by omega
  have HRR:Hid (sealC b=fourOf R++inner b):=by show sealC b=_;unfold sealC;rw[hRR]
  clear hRR hR aok2 aV2 aW2 aok3 aV3 aW3
  obtain⟨w4,hw4⟩:∃w4,w4=w'.alloc (.cells #[.int .u8 ((R:Int) / 16777216),.int .u8 ((R:Int) / 65536 % 256),.int .u8 ((R:Int) / 256 % 256),.int .u8 ((R:Int) % 256)] 5):=⟨_,rfl⟩
  have k4:Same w' w4:=by rw[hw4];exact(Kept.refl _ _).alloc _
  have o4:OwnN w4 w'.heap.size 5 .u8 (.slice (some ⟨w'.heap.size,0,none⟩) 4 4) (fourOf R):=by
   refine OwnN.blk (g:=w'.heap.size) ?_ rfl (Nat.le_refl _) (by simp[maxLen,fourOf])
   rw[hw4]
   simp only[fourOf,List.map_cons,List.map_nil,Int.natCast_ediv,Int.natCast_emod]
   exact Blk.new w' _ _
  obtain⟨v5,w5,hr5,o5,g5, -⟩:=run_appendB (P:=Tryz.prog) w4 32 32 5 w'.heap.size .u8 1 Tryz.underlying32 (by kernel_rfl) (by decide) _ _ o4 a3 1020 c3 (inner b) IL.out.symm (N3.out.same k4) (by rw[IL.out];simp[fourOf]) k4.size
  obtain⟨a5,l5,c5,rfl,hl5, -,n5,hc5⟩:=o5.rd
  have k5:=(K3.out.trans k4).grownNew g5 (fun k hk=>Nat.le_trans K3.out.size (World.ownsRow.lt o4 k hk).1)
  have far5:∀x,a5=some x→w.heap.size≤x.block:=fun x hx=>Nat.le_trans K3.out.size (World.ownsRow.lt o5 x.block (by rw[hx];rfl)).1
  rw[←HRR.out]at n5 hl5
  have N5:=n5
  have K5:=qh k5
  have F5:=qh far5
  have C5:Hid (l5≤c5):=hc5.out.1
  subst hw4
  obtain⟨aok5,aV5,aW5⟩:=app_of hr5
  clear hr5 o5 g5 o4 k4 k5 far5 n5 hc5 K3 K2 O3 N3
  go_wp2_with fail
  go_ret2
  exact⟨a5,c5,by rw[hl5.out];rfl,N5.out,by rw[←hl5.out];exact C5.out,F5.out,K5.out⟩
 ·have hbi:(1016:Int)<(b.length:Int):=by omega
  have e1:sealP b=([],5):=if_neg hbig
  rw[e1]
  go_enter Tryz.func150,Tryz.ntmps150
  go_wp2_with fail
  go_ret2
  exact⟨none,0,rfl,.inl rfl,Nat.le_refl _,(fun x hx=>by cases hx),Kept.refl _ _⟩
end
theorem rc_open_sum(g o C:Nat)(hC:1024≤C)(w:World)(s y0 y1 y2 y3:Nat)(hs:(s:Int)<4294967296)
 (A0:w.cell? ⟨g,o,none⟩=some (.int .u8 (y0:Nat))) (A1:w.cell? ⟨g,o+1,none⟩=some (.int .u8 (y1:Nat))) (A2:w.cell? ⟨g,o+2,none⟩=some (.int .u8 (y2:Nat))) (A3:w.cell? ⟨g,o+3,none⟩=some (.int .u8 (y3:Nat)))
 (SU:Hid (Calls Tryz.prog 164 #[.slice (some ⟨g,o+4,none⟩) 1020 (C - 4)] w fun e w''=>e=.returned (.int .u32 (s:Nat))∧w''=w))
 (hne:¬((y0:Int)=(s:Int) / 16777216∧(y1:Int)=(s:Int) / 65536 % 256∧(y2:Int)=(s:Int) / 256 % 256∧(y3:Int)=(s:Int) % 256)):
 Calls Tryz.prog 147 #[.slice (some ⟨g,o,none⟩) 1024 C,.int .i64 1024] w fun e w'=>Told w w' e ([],10):=by
 by_cases h0:(y0:Int)=(s:Int) / 16777216
 ·by_cases h1:(y1:Int)=(s:Int) / 65536 % 256
  ·by_cases h2:(y2:Int)=(s:Int) / 256 % 256
   ·have h3:¬(y3:Int)=(s:Int) % 256:=fun h=>hne ⟨h0,h1,h2,h⟩
    rw[h0]at A0
    rw[h1]at A1
    rw[h2]at A2
    have h4:((y3:Int) !=(s:Int) % 256)=true:=by simpa using h3
    clear hne h0 h1 h2 h3
    go_enter Tryz.func147,Tryz.ntmps147
    go_wp2_with fail
    refine SU.out.mono ?_
    rintro e w' ⟨rfl,rfl⟩
    clear SU
    go_wp2_with fail
    go_ret2
    exact⟨none,0,rfl,.inl rfl,fun _=>rfl,Kept.refl _ _⟩
   ·rw[h0]at A0
    rw[h1]at A1
    clear hne h0 h1
    go_enter Tryz.func147,Tryz.ntmps147
    go_wp2_with fail
    refine SU.out.mono ?_
    rintro e w' ⟨rfl,rfl⟩
    clear SU
    go_wp2_with fail
    go_ret2
    exact⟨none,0,rfl,.inl rfl,fun _=>rfl,Kept.refl _ _⟩
  ·rw[h0]at A0
   clear hne h0
   go_enter Tryz.func147,Tryz.ntmps147
   go_wp2_with fail
   refine SU.out.mono ?_
   rintro e w' ⟨rfl,rfl⟩
   clear SU
   go_wp2_with fail
   go_ret2
   exact⟨none,0,rfl,.inl rfl,fun _=>rfl,Kept.refl _ _⟩
 ·clear hne
  go_enter Tryz.func147,Tryz.ntmps147
  go_wp2_with fail
  refine SU.out.mono ?_
  rintro e w' ⟨rfl,rfl⟩
  clear SU
  go_wp2_with fail
  go_ret2
  exact⟨none,0,rfl,.inl rfl,fun _=>rfl,Kept.refl _ _⟩
theorem rc_open_big(g o C:Nat)(hC:1024≤C)(w:World)(s x4 x5 n:Nat)(hs:(s:Int)<4294967296)
 (A0:w.cell? ⟨g,o,none⟩=some (.int .u8 ((s:Int) / 16777216))) (A1:w.cell? ⟨g,o+1,none⟩=some (.int .u8 ((s:Int) / 65536 % 256))) (A2:w.cell? ⟨g,o+2,none⟩=some (.int .u8 ((s:Int) / 256 % 256))) (A3:w.cell? ⟨g,o+3,none⟩=some (.int .u8 ((s:Int) % 256)))
 (AC:Hid (∀w',Same w w'→w'.cell? ⟨g,o+4,none⟩=some (.int .u8 (x4:Nat))∧w'.cell? ⟨g,o+5,none⟩=some (.int .u8 (x5:Nat))))
 (b4:x4<256) (b5:x5<256) (hn:256*(x4:Int)+(x5:Int)=(n:Int)) (hbig:1016<(n:Int))
 (SU:Hid (Calls Tryz.prog 164 #[.slice (some ⟨g,o+4,none⟩) 1020 (C - 4)] w fun e w''=>e=.returned (.int .u32 (s:Nat))∧w''=w)):
 Calls Tryz.prog 147 #[.slice (some ⟨g,o,none⟩) 1024 C,.int .i64 1024] w fun e w'=>Told w w' e ([],4):=by
 have D4:=fun dq os=>(AC.out _ (Kept.of_below (below_regrown w dq os))).1
 have D5:=fun dq os=>(AC.out _ (Kept.of_below (below_regrown w dq os))).2
 have ex4:IntKind.i64.wrap (x4:Int)=(x4:Int):=IntWalk.i64_in _ (by omega)
 have ex5:IntKind.i64.wrap (x5:Int)=(x5:Int):=IntWalk.i64_in _ (by omega)
 have ex6:IntKind.i64.wrap (256*(x4:Int))=256*(x4:Int):=IntWalk.i64_in _ (by omega)
 have ex7:IntKind.i64.wrap (256*(x4:Int)+(x5:Int))=(n:Int):=by rw[hn];exact IntWalk.i64_in _ (by omega)
 clear hn
 go_enter Tryz.func147,Tryz.ntmps147
 go_wp2_with fail
 refine SU.out.mono ?_
 rintro e w' ⟨rfl,rfl⟩
 clear SU
 go_wp2_with fail
 refine wp_region_quiet_below (by kernel_rfl) (by kernel_rfl) ?_
 repeat(quiet_step (fail))
 refine wpQuiet_nil ?_
 intro _ hw'
 obtain⟨⟨dq,osq⟩,hw''⟩:=hw'
 subst hw''
 have kq:=qh (show Same w' _ from Kept.of_below (below_regrown w' dq osq))
 have K8:=qh kq.out
 clear kq D4 D5
 generalize hW8:grow (redrawn w' dq) osq=w8 at*
 clear hW8 A0 A1 A2 A3 hs
 go_wp2_with fail
 go_ret2
 exact⟨none,0,rfl,.inl rfl,fun _=>rfl,K8.out⟩
section
attribute [local go_sem ↓] exec_app semAt_app
attribute [local go_sem] isApp_lit appA appX
theorem rc_open_form(g o C:Nat)(hC:1024≤C)(b:List Nat)(w:World)(HL:Hid (b.length=1024))(HB:Hid (Bts b))(AT:Hid (NatsAt w .u8 (some ⟨g,o,none⟩) b))(s x4 x5 n:Nat)(hs:(s:Int)<4294967296)
 (A0:w.cell? ⟨g,o,none⟩=some (.int .u8 ((s:Int) / 16777216))) (A1:w.cell? ⟨g,o+1,none⟩=some (.int .u8 ((s:Int) / 65536 % 256))) (A2:w.cell? ⟨g,o+2,none⟩=some (.int .u8 ((s:Int) / 256 % 256))) (A3:w.cell? ⟨g,o+3,none⟩=some (.int .u8 ((s:Int) % 256)))
 (AC:Hid (∀w',Same w w'→w'.cell? ⟨g,o+4,none⟩=some (.int .u8 (x4:Nat))∧w'.cell? ⟨g,o+5,none⟩=some (.int .u8 (x5:Nat))))
 (b4:x4<256) (b5:x5<256) (hn:256*(x4:Int)+(x5:Int)=(n:Int)) (hn16:n≤1016)
 (SU:Hid (Calls Tryz.prog 164 #[.slice (some ⟨g,o+4,none⟩) 1020 (C - 4)] w fun e w''=>e=.returned (.int .u32 (s:Nat))∧w''=w)) (r:List Nat×Nat)
 (HR:Hid (r=if sealC ((b.drop 8).take n)=b then((b.drop 8).take n,0)else([],4))):
 Calls Tryz.prog 147 #[.slice (some ⟨g,o,none⟩) 1024 C,.int .i64 1024] w fun e w'=>Told w w' e r:=by
 have D4:=fun dq os=>(AC.out _ (Kept.of_below (below_regrown w dq os))).1
 have D5:=fun dq os=>(AC.out _ (Kept.of_below (below_regrown w dq os))).2
 have ex4:IntKind.i64.wrap (x4:Int)=(x4:Int):=IntWalk.i64_in _ (by omega)
 have ex5:IntKind.i64.wrap (x5:Int)=(x5:Int):=IntWalk.i64_in _ (by omega)
 have ex6:IntKind.i64.wrap (256*(x4:Int))=256*(x4:Int):=IntWalk.i64_in _ (by omega)
 have ex7:IntKind.i64.wrap (256*(x4:Int)+(x5:Int))=(n:Int):=by rw[hn];exact IntWalk.i64_in _ (by omega)
 clear hn
 have hbig:¬(1016:Int)<(n:Int):=by omega
 go_enter Tryz.func147,Tryz.ntmps147
 go_wp2_with fail
 refine SU.out.mono ?_
 rintro e w' ⟨rfl,rfl⟩
 clear SU
 go_wp2_with fail
 refine wp_region_quiet_below (by kernel_rfl) (by kernel_rfl) ?_
 repeat(quiet_step (fail))
 refine wpQuiet_nil ?_
 intro _ hw'
 obtain⟨⟨dq,osq⟩,hw''⟩:=hw'
 subst hw''
 have kq:=qh (show Same w' _ from Kept.of_below (below_regrown w' dq osq))
 have K8:=qh kq.out
 clear kq D4 D5
 generalize hW8:grow (redrawn w' dq) osq=w8 at*
 clear hW8 A0 A1 A2 A3 hs
 have hxl:((b.drop 8).take n).length=n:=by rw[List.length_take,List.length_drop,HL.out];omega
 have hxb:Bts ((b.drop 8).take n):=(HB.out.drop 8).take n
 have hxa:NatsAt w8 .u8 (some ⟨g,o+8,none⟩) ((b.drop 8).take n):=((AT.out.same K8.out).drop 8).take n
 obtain⟨X,hX⟩:∃X,(b.drop 8).take n=X:=⟨_,rfl⟩
 rw[hX]at hxl hxb hxa HR
 have k1:Same w8 (w8.alloc (.cells #[] 5)):=(Kept.refl _ _).alloc _
 have o1:OwnN (w8.alloc (.cells #[] 5)) w8.heap.size 5 .u8 (.slice (some ⟨w8.heap.size,0,none⟩) 0 0) []:=OwnN.blk (g:=w8.heap.size) (Blk.new w8 _ _) rfl (Nat.le_refl _) (by simp[maxLen])
 obtain⟨v2,w2,hr2,o2,g2, -⟩:=run_appendB (P:=Tryz.prog) (w8.alloc (.cells #[] 5)) 32 32 5 w8.heap.size .u8 1 Tryz.underlying32 (by kernel_rfl) (by decide) _ _ o1 (some ⟨g,o+8,none⟩) n (C - 8) X hxl.symm (hxa.same k1) (by rw[hxl];simp;omega) k1.size
 rw[List.nil_append]at o2
 obtain⟨a2,l2,c2,rfl,hl2, -,n2,hc2⟩:=o2.rd
 have hl2':l2=n:=by rw[hl2.out,hxl]
 subst hl2'
 obtain⟨aok,aV,aW⟩:=app_of hr2
 have K2:=qh (K8.out.trans (k1.grownNew g2 (fun k hk=>(World.ownsRow.lt o1 k hk).1)))
 have N2:=n2
 have C2:=hc2.out.1
 have HXL:=qh hxl
 have HXB:=qh hxb
 have t8:(8+(l2:Int)).toNat=8+l2:=by omega
 have t9:8+(l2:Int)≤1024:=by omega
 clear hr2 o1 o2 g2 k1 n2 hc2 hl2 hxl hxb hxa hX ex4 ex5 ex6 ex7
 go_wp2_with fail
 refine(rc_seal a2 l2 c2 X HXL.out.symm HXB.out C2 w2 N2.out).mono ?_
 rw[show sealP X=(sealC X,0)from if_pos (by rw[HXL.out];omega)]
 rintro e w3 ⟨a3,c3,rfl,n3, -, -,k3⟩
 have hX16:X.length≤1016:=by rw[HXL.out];omega
 have hv1:=conv_str a3 (sealC X).length c3 (sealC X) w3 rfl n3
 have hv2:=conv_str (some ⟨g,o,none⟩) 1024 C b w3 HL.out.symm (AT.out.same (K2.out.trans k3))
 have K3:=qh (K2.out.trans k3)
 have N3:=qh (N2.out.same k3)
 have hbq:=str_beq (sealC_bts hX16 HXB.out) HB.out
 clear n3 k3 aok aV aW
 by_cases heq:sealC X=b
 ·have hr:=HR.out
  rw[if_pos heq]at hr
  have HRR:=qh hr
  rw[decide_eq_true heq]at hbq
  obtain⟨Z,hZ⟩:∃Z,sealC X=Z:=⟨_,rfl⟩
  rw[hZ]at hv1 hbq ⊢
  clear hr heq hZ
  go_wp2_with fail
  go_ret2
  rw[HRR.out]
  exact⟨a2,c2,by rw[HXL.out];rfl,N3.out,(fun h=>by rcases N3.out with q|⟨_,_,q,_⟩;exact q;rw[h]at q;cases q),K3.out⟩
 ·have hr:=HR.out
  rw[if_neg heq]at hr
  have HRR:=qh hr
  rw[decide_eq_false heq]at hbq
  obtain⟨Z,hZ⟩:∃Z,sealC X=Z:=⟨_,rfl⟩
  rw[hZ]at hv1 hbq ⊢
  clear hr heq hZ
  go_wp2_with fail
  go_ret2
  rw[HRR.out]
  exact⟨none,0,rfl,.inl rfl,fun _=>rfl,K3.out⟩
end
theorem rc_open(g o C:Nat)(hC:1024≤C)(b:List Nat)(hl:b.length=1024)(hb:Bts b)(w:World)(hat:NatsAt w .u8 (some ⟨g,o,none⟩) b):
 Calls Tryz.prog 147 #[.slice (some ⟨g,o,none⟩) 1024 C,.int .i64 1024] w fun e w'=>Told w w' e (openP b):=by
 have HL:=qh hl;have HB:=qh hb;have AT:=qh hat
 have SU:=qh (cr_ref_of (some ⟨g,o+4,none⟩) 1020 (C - 4) (b.drop 4) (by rw[List.length_drop,hl]) (hb.drop 4) w (hat.drop 4) (by omega))
 have hS:=crcOf_lt (b.drop 4) (hb.drop 4)
 have hag:=fun h4 hn=>seal_again hl hb h4 hn
 have ht:=take_four hl
 have hc:∀i,i<1024→w.cell? ⟨g,o+i,none⟩=some (.int .u8 (b.getD i 0:Nat)):=fun i hi=>nats_get hat (by omega)
 have AC:Hid (∀w',Same w w'→w'.cell? ⟨g,o+4,none⟩=some (.int .u8 (b.getD 4 0:Nat))∧w'.cell? ⟨g,o+5,none⟩=some (.int .u8 (b.getD 5 0:Nat))):=
  fun w' k=>⟨nats_get (hat.same k) (by omega),nats_get (hat.same k) (by omega)⟩
 have c0:=hc 0 (by decide)
 have c1:=hc 1 (by decide)
 have c2:=hc 2 (by decide)
 have c3:=hc 3 (by decide)
 have b4:=getD_bts HB.out 4
 have b5:=getD_bts HB.out 5
 unfold openP
 obtain⟨s,hs⟩:∃s,crcOf (b.drop 4)=s:=⟨_,rfl⟩
 rw[hs]at SU hS hag ⊢
 rw[ht]at hag ⊢
 clear ht hc
 generalize b.getD 0 0=y0 at*
 generalize b.getD 1 0=y1 at*
 generalize b.getD 2 0=y2 at*
 generalize b.getD 3 0=y3 at*
 generalize b.getD 4 0=x4 at*
 generalize b.getD 5 0=x5 at*
 have hs4:(s:Int)<4294967296:=by omega
 by_cases h4:[y0,y1,y2,y3]=fourOf s
 ·rw[if_pos h4]
  have hag:=hag h4
  simp only[fourOf,List.cons.injEq,and_true]at h4
  obtain⟨q0,q1,q2,q3⟩:=h4
  rw[show((y0:Nat):Int)=(s:Int) / 16777216 from by omega]at c0
  rw[show((y1:Nat):Int)=(s:Int) / 65536 % 256 from by omega]at c1
  rw[show((y2:Nat):Int)=(s:Int) / 256 % 256 from by omega]at c2
  rw[show((y3:Nat):Int)=(s:Int) % 256 from by omega]at c3
  by_cases hn:256*x4+x5≤1016
  ·rw[if_pos hn]
   have hag:=hag hn
   obtain⟨n,hnn⟩:∃n,256*x4+x5=n:=⟨_,rfl⟩
   rw[hnn]at hag hn ⊢
   refine rc_open_form g o C hC b w HL HB AT s x4 x5 n hs4 c0 c1 c2 c3 AC b4 b5 (by omega) hn SU _ ?_
   show _=_
   by_cases hf:formOK b
   ·rw[if_pos hf,if_pos (hag.2 hf)]
   ·rw[if_neg hf,if_neg (fun h=>hf (hag.1 h))]
  ·rw[if_neg hn]
   exact rc_open_big g o C hC w s x4 x5 (256*x4+x5) hs4 c0 c1 c2 c3 AC b4 b5 (by omega) (by omega) SU
 ·rw[if_neg h4]
  refine rc_open_sum g o C hC w s y0 y1 y2 y3 hs4 c0 c1 c2 c3 SU (fun h=>h4 ?_)
  simp only[fourOf,List.cons.injEq,and_true]
  omega
end
section
open Go.RowKit Go.Sort
theorem rb_may(f k:Int)(w:World):Calls Tryz.prog 163 #[areaV f k] w fun e w'=>e=.returned (.bool (mayB f k))∧Same w w':=by
 unfold areaV
 obtain⟨q,hq⟩:∃q,mayB f k=q:=⟨_,rfl⟩
 rw[hq]
 have hbb:=hq
 unfold mayB at hbb
 clear hq
 by_cases h1:0≤f
 ·by_cases h2:f≤4096
  ·by_cases h3:0≤k
   ·by_cases h4:k≤512
    ·have hb:q=true:=by rw[←hbb];(simp_all<;>omega)
     clear hbb
     subst hb
     go_enter Tryz.func163,Tryz.ntmps163
     go_wp2_with fail
     go_ret
     exact⟨rfl,(Kept.refl _ w).alloc _⟩
    ·have hb:q=false:=by rw[←hbb];(simp_all<;>omega)
     clear hbb
     subst hb
     go_enter Tryz.func163,Tryz.ntmps163
     go_wp2_with fail
     go_ret
     exact⟨rfl,(Kept.refl _ w).alloc _⟩
   ·have hb:q=false:=by rw[←hbb];(simp_all<;>omega)
    clear hbb
    subst hb
    go_enter Tryz.func163,Tryz.ntmps163
    go_wp2_with fail
    go_ret
    exact⟨rfl,(Kept.refl _ w).alloc _⟩
  ·have hb:q=false:=by rw[←hbb];(simp_all<;>omega)
   clear hbb
   subst hb
   go_enter Tryz.func163,Tryz.ntmps163
   go_wp2_with fail
   go_ret
   exact⟨rfl,(Kept.refl _ w).alloc _⟩
 ·have hb:q=false:=by rw[←hbb];(simp_all<;>omega)
  clear hbb
  subst hb
  go_enter Tryz.func163,Tryz.ntmps163
  go_wp2_with fail
  go_ret
  exact⟨rfl,(Kept.refl _ w).alloc _⟩
theorem rb_check(a:Option Addr)(n0 c:Nat)(D:Dsk)(hn:n0=D.s.length)(hl:n0≤4096)(f k:Int)(w:World):
 Calls Tryz.prog 162 #[refV a n0 c D,areaV f k] w fun e w'=>e=.returned (.int .i64 (errA D.s.length f k:Nat))∧Same w w':=by
 rw[←hn]
 have MA:=qh fun w'=>rb_may f k w'
 have hm:= @mayB_iff f k
 obtain⟨E,hE⟩:∃E,errA n0 f k=E:=⟨_,rfl⟩
 rw[hE]
 unfold errA at hE
 unfold areaV at MA ⊢
 obtain⟨q,hq⟩:∃q,mayB f k=q:=⟨_,rfl⟩
 rw[hq]at MA hm hE
 obtain⟨s,off,calls,after,done⟩:=D
 simp only[refV]
 clear hn hq
 cases q
 ·have hE2:E=2:=by rw[←hE];simp
  subst hE2
  clear hE hm
  go_enter Tryz.func162,Tryz.ntmps162
  go_wp2_with fail
  have K0:Same w ((w.alloc (.cells #[.slice a n0 c,.bool off,.int .i64 calls,.int .i64 after,.bool done] 104)).alloc (.cells #[.int .i64 f,.int .i64 k] 163)):=((Kept.refl _ w).alloc _).alloc _
  have F0:Fr ((w.alloc (.cells #[.slice a n0 c,.bool off,.int .i64 calls,.int .i64 after,.bool done] 104)).alloc (.cells #[.int .i64 f,.int .i64 k] 163)) [(w.heap.size,#[.slice a n0 c,.bool off,.int .i64 calls,.int .i64 after,.bool done],104),(w.heap.size+1,#[.int .i64 f,.int .i64 k],163)]:=⟨(Blk.new w _ _).alloc _,Blk.new' _ _ _ (by simp),trivial⟩
  have K:=qh K0
  have F:=qh F0
  clear K0 F0
  refine(MA.out _).mono ?_
  rintro e w2 ⟨rfl,k2⟩
  have KN:=qh (K.out.trans k2)
  have FN:=qh (F.out.same k2)
  clear K F k2
  have K:=KN
  have F:=FN
  clear KN FN
  obtain⟨p0,f0,p1,f1, -⟩:=F.out.rules;have z0:=F.out.1.lt;have z1:=F.out.2.1.lt
  go_wp2_with fail
  go_ret
  exact⟨rfl,K.out⟩
 ·replace hm:=hm.1 rfl
  have gk:0≤4*k:=by omega
  have gk2:4*k≤2048:=by omega
  by_cases hle:f+4*k≤(n0:Int)
  ·have hE2:E=0:=by rw[←hE];simp[hle]
   subst hE2
   have gd:¬(n0:Int)<f+4*k:=by omega
   obtain⟨m1,m2,m3,m4⟩:=hm
   clear hE hle
   go_enter Tryz.func162,Tryz.ntmps162
   go_wp2_with fail
   have K0:Same w ((w.alloc (.cells #[.slice a n0 c,.bool off,.int .i64 calls,.int .i64 after,.bool done] 104)).alloc (.cells #[.int .i64 f,.int .i64 k] 163)):=((Kept.refl _ w).alloc _).alloc _
   have F0:Fr ((w.alloc (.cells #[.slice a n0 c,.bool off,.int .i64 calls,.int .i64 after,.bool done] 104)).alloc (.cells #[.int .i64 f,.int .i64 k] 163)) [(w.heap.size,#[.slice a n0 c,.bool off,.int .i64 calls,.int .i64 after,.bool done],104),(w.heap.size+1,#[.int .i64 f,.int .i64 k],163)]:=⟨(Blk.new w _ _).alloc _,Blk.new' _ _ _ (by simp),trivial⟩
   have K:=qh K0
   have F:=qh F0
   clear K0 F0
   refine(MA.out _).mono ?_
   rintro e w2 ⟨rfl,k2⟩
   have KN:=qh (K.out.trans k2)
   have FN:=qh (F.out.same k2)
   clear K F k2
   have K:=KN
   have F:=FN
   clear KN FN
   obtain⟨p0,f0,p1,f1, -⟩:=F.out.rules;have z0:=F.out.1.lt;have z1:=F.out.2.1.lt
   go_wp2_with fail
   go_ret
   exact⟨rfl,K.out⟩
  ·have hE2:E=2:=by rw[←hE];simp[hle]
   subst hE2
   have gd:(n0:Int)<f+4*k:=by omega
   obtain⟨m1,m2,m3,m4⟩:=hm
   clear hE hle
   go_enter Tryz.func162,Tryz.ntmps162
   go_wp2_with fail
   have K0:Same w ((w.alloc (.cells #[.slice a n0 c,.bool off,.int .i64 calls,.int .i64 after,.bool done] 104)).alloc (.cells #[.int .i64 f,.int .i64 k] 163)):=((Kept.refl _ w).alloc _).alloc _
   have F0:Fr ((w.alloc (.cells #[.slice a n0 c,.bool off,.int .i64 calls,.int .i64 after,.bool done] 104)).alloc (.cells #[.int .i64 f,.int .i64 k] 163)) [(w.heap.size,#[.slice a n0 c,.bool off,.int .i64 calls,.int .i64 after,.bool done],104),(w.heap.size+1,#[.int .i64 f,.int .i64 k],163)]:=⟨(Blk.new w _ _).alloc _,Blk.new' _ _ _ (by simp),trivial⟩
   have K:=qh K0
   have F:=qh F0
   clear K0 F0
   refine(MA.out _).mono ?_
   rintro e w2 ⟨rfl,k2⟩
   have KN:=qh (K.out.trans k2)
   have FN:=qh (F.out.same k2)
   clear K F k2
   have K:=KN
   have F:=FN
   clear KN FN
   obtain⟨p0,f0,p1,f1, -⟩:=F.out.rules;have z0:=F.out.1.lt;have z1:=F.out.2.1.lt
   go_wp2_with fail
   go_ret
   exact⟨rfl,K.out⟩
theorem rb_at(a:Option Addr)(n0 c:Nat)(D:Dsk)(hn:n0=D.s.length)(hl:n0≤4096)(f k n:Int)(w:World):
 Calls Tryz.prog 145 #[refV a n0 c D,areaV f k,.int .i64 n] w fun e w'=>e=.returned (.int .i64 (atA D.s.length f k n:Nat))∧Same w w':=by
 have CH:=qh fun w'=>rb_check a n0 c D hn hl f k w'
 have hh:= @hasB_iff k n
 obtain⟨X,hX⟩:∃X,atA D.s.length f k n=X:=⟨_,rfl⟩
 rw[hX]
 unfold atA at hX
 obtain⟨E,hE⟩:∃E,errA D.s.length f k=E:=⟨_,rfl⟩
 simp only[hE]at CH hX
 obtain⟨q,hq⟩:∃q,hasB k n=q:=⟨_,rfl⟩
 rw[hq]at hh hX
 unfold areaV at CH ⊢
 obtain⟨s,off,calls,after,done⟩:=D
 simp only[refV]at CH ⊢
 clear hn hq hE
 by_cases h0:E=0
 ·subst h0
  cases q
  ·have hh':¬(0≤n∧n<k):=fun h=>by have:=hh.2 h;cases this
   have hX2:X=9:=by rw[←hX];simp
   subst hX2
   clear hX hh
   by_cases hn0:n<0
   ·clear hh'
    go_enter Tryz.func145,Tryz.ntmps145
    go_wp2_with fail
    have K0:Same w ((w.alloc (.cells #[.slice a n0 c,.bool off,.int .i64 calls,.int .i64 after,.bool done] 104)).alloc (.cells #[.int .i64 f,.int .i64 k] 163)):=((Kept.refl _ w).alloc _).alloc _
    have F0:Fr ((w.alloc (.cells #[.slice a n0 c,.bool off,.int .i64 calls,.int .i64 after,.bool done] 104)).alloc (.cells #[.int .i64 f,.int .i64 k] 163)) [(w.heap.size,#[.slice a n0 c,.bool off,.int .i64 calls,.int .i64 after,.bool done],104),(w.heap.size+1,#[.int .i64 f,.int .i64 k],163)]:=⟨(Blk.new w _ _).alloc _,Blk.new' _ _ _ (by simp),trivial⟩
    have K:=qh K0
    have F:=qh F0
    clear K0 F0
    refine(CH.out _).mono ?_
    rintro e w2 ⟨rfl,k2⟩
    have KN:=qh (K.out.trans k2)
    have FN:=qh (F.out.same k2)
    clear K F k2
    have K:=KN
    have F:=FN
    clear KN FN
    obtain⟨p0,f0,p1,f1, -⟩:=F.out.rules;have z0:=F.out.1.lt;have z1:=F.out.2.1.lt
    go_wp2_with fail
    go_ret
    exact⟨rfl,K.out⟩
   ·have hk:k≤n:=by omega
    clear hh'
    go_enter Tryz.func145,Tryz.ntmps145
    go_wp2_with fail
    have K0:Same w ((w.alloc (.cells #[.slice a n0 c,.bool off,.int .i64 calls,.int .i64 after,.bool done] 104)).alloc (.cells #[.int .i64 f,.int .i64 k] 163)):=((Kept.refl _ w).alloc _).alloc _
    have F0:Fr ((w.alloc (.cells #[.slice a n0 c,.bool off,.int .i64 calls,.int .i64 after,.bool done] 104)).alloc (.cells #[.int .i64 f,.int .i64 k] 163)) [(w.heap.size,#[.slice a n0 c,.bool off,.int .i64 calls,.int .i64 after,.bool done],104),(w.heap.size+1,#[.int .i64 f,.int .i64 k],163)]:=⟨(Blk.new w _ _).alloc _,Blk.new' _ _ _ (by simp),trivial⟩
    have K:=qh K0
    have F:=qh F0
    clear K0 F0
    refine(CH.out _).mono ?_
    rintro e w2 ⟨rfl,k2⟩
    have KN:=qh (K.out.trans k2)
    have FN:=qh (F.out.same k2)
    clear K F k2
    have K:=KN
    have F:=FN
    clear KN FN
    obtain⟨p0,f0,p1,f1, -⟩:=F.out.rules;have z0:=F.out.1.lt;have z1:=F.out.2.1.lt
    go_wp2_with fail
    go_ret
    exact⟨rfl,K.out⟩
  ·obtain⟨q1,q2⟩:=hh.1 rfl
   have hX2:X=0:=by rw[←hX];simp
   subst hX2
   clear hX hh
   go_enter Tryz.func145,Tryz.ntmps145
   go_wp2_with fail
   have K0:Same w ((w.alloc (.cells #[.slice a n0 c,.bool off,.int .i64 calls,.int .i64 after,.bool done] 104)).alloc (.cells #[.int .i64 f,.int .i64 k] 163)):=((Kept.refl _ w).alloc _).alloc _
   have F0:Fr ((w.alloc (.cells #[.slice a n0 c,.bool off,.int .i64 calls,.int .i64 after,.bool done] 104)).alloc (.cells #[.int .i64 f,.int .i64 k] 163)) [(w.heap.size,#[.slice a n0 c,.bool off,.int .i64 calls,.int .i64 after,.bool done],104),(w.heap.size+1,#[.int .i64 f,.int .i64 k],163)]:=⟨(Blk.new w _ _).alloc _,Blk.new' _ _ _ (by simp),trivial⟩
   have K:=qh K0
   have F:=qh F0
   clear K0 F0
   refine(CH.out _).mono ?_
   rintro e w2 ⟨rfl,k2⟩
   have KN:=qh (K.out.trans k2)
   have FN:=qh (F.out.same k2)
   clear K F k2
   have K:=KN
   have F:=FN
   clear KN FN
   obtain⟨p0,f0,p1,f1, -⟩:=F.out.rules;have z0:=F.out.1.lt;have z1:=F.out.2.1.lt
   go_wp2_with fail
   go_ret
   exact⟨rfl,K.out⟩
 ·have hX2:X=E:=by rw[←hX];simp[h0]
  subst hX2
  have g0:¬(X:Int)=0:=by omega
  clear hX hh
  go_enter Tryz.func145,Tryz.ntmps145
  go_wp2_with fail
  have K0:Same w ((w.alloc (.cells #[.slice a n0 c,.bool off,.int .i64 calls,.int .i64 after,.bool done] 104)).alloc (.cells #[.int .i64 f,.int .i64 k] 163)):=((Kept.refl _ w).alloc _).alloc _
  have F0:Fr ((w.alloc (.cells #[.slice a n0 c,.bool off,.int .i64 calls,.int .i64 after,.bool done] 104)).alloc (.cells #[.int .i64 f,.int .i64 k] 163)) [(w.heap.size,#[.slice a n0 c,.bool off,.int .i64 calls,.int .i64 after,.bool done],104),(w.heap.size+1,#[.int .i64 f,.int .i64 k],163)]:=⟨(Blk.new w _ _).alloc _,Blk.new' _ _ _ (by simp),trivial⟩
  have K:=qh K0
  have F:=qh F0
  clear K0 F0
  refine(CH.out _).mono ?_
  rintro e w2 ⟨rfl,k2⟩
  have KN:=qh (K.out.trans k2)
  have FN:=qh (F.out.same k2)
  clear K F k2
  have K:=KN
  have F:=FN
  clear KN FN
  obtain⟨p0,f0,p1,f1, -⟩:=F.out.rules;have z0:=F.out.1.lt;have z1:=F.out.2.1.lt
  go_wp2_with fail
  go_ret
  exact⟨rfl,K.out⟩
end
section
open Go.RowKit Go.Sort
theorem secs_snoc(f n:Int)(i:Nat):(List.range (i+1)).map (fun j=>(f+4*n).toNat+j)=(List.range i).map (fun j=>(f+4*n).toNat+j)++[(f+4*n).toNat+i]:=by
 rw[List.range_succ,List.map_append];rfl
section
attribute [local go_sem ↓] exec_app semAt_app
attribute [local go_sem] isApp_lit appA appX
theorem rb_sectors(f k n:Int)(w:World):
 Calls Tryz.prog 146 #[areaV f k,.int .i64 n] w fun e w'=>∃a c,e=.returned (.slice a (secsA f k n).length c)∧NatsAt w' .i64 a (secsA f k n)∧((a=none→c=0)∧Far w a)∧Same w w':=by
 have MA:=qh fun w'=>rb_may f k w'
 have hm:= @mayB_iff f k
 have hh:= @hasB_iff k n
 obtain⟨L,hL⟩:∃L,secsA f k n=L:=⟨_,rfl⟩
 rw[hL]
 unfold secsA at hL
 unfold areaV at MA ⊢
 obtain⟨q,hq⟩:∃q,mayB f k=q:=⟨_,rfl⟩
 obtain⟨r,hr⟩:∃r,hasB k n=r:=⟨_,rfl⟩
 rw[hq]at MA hm hL
 rw[hr]at hh hL
 clear hq hr
 cases q
 ·have hL2:L=[]:=by rw[←hL];simp
  subst hL2
  clear hL hm hh
  go_enter Tryz.func146,Tryz.ntmps146
  go_wp2_with fail
  have K0:Same w (w.alloc (.cells #[.int .i64 f,.int .i64 k] 163)):=(Kept.refl _ w).alloc _
  have F0:Fr (w.alloc (.cells #[.int .i64 f,.int .i64 k] 163)) [(w.heap.size,#[.int .i64 f,.int .i64 k],163)]:=⟨Blk.new w _ _,trivial⟩
  have K:=qh K0
  have F:=qh F0
  clear K0 F0
  refine(MA.out _).mono ?_
  rintro e w2 ⟨rfl,k2⟩
  have KN:=qh (K.out.trans k2)
  have FN:=qh (F.out.same k2)
  clear K F k2
  have K:=KN
  have F:=FN
  clear KN FN
  obtain⟨p0,f0, -⟩:=F.out.rules;have z0:=F.out.1.lt
  go_wp2_with fail
  go_ret
  exact⟨none,0,rfl,.inl rfl,⟨fun _=>rfl,(fun x hx=>by cases hx)⟩,K.out⟩
 ·replace hm:=hm.1 rfl
  cases r
  ·have hL2:L=[]:=by rw[←hL];simp
   subst hL2
   have hh':¬(0≤n∧n<k):=fun h=>by have:=hh.2 h;cases this
   clear hL hh hm
   by_cases hn0:n<0
   ·clear hh'
    go_enter Tryz.func146,Tryz.ntmps146
    go_wp2_with fail
    have K0:Same w (w.alloc (.cells #[.int .i64 f,.int .i64 k] 163)):=(Kept.refl _ w).alloc _
    have F0:Fr (w.alloc (.cells #[.int .i64 f,.int .i64 k] 163)) [(w.heap.size,#[.int .i64 f,.int .i64 k],163)]:=⟨Blk.new w _ _,trivial⟩
    have K:=qh K0
    have F:=qh F0
    clear K0 F0
    refine(MA.out _).mono ?_
    rintro e w2 ⟨rfl,k2⟩
    have KN:=qh (K.out.trans k2)
    have FN:=qh (F.out.same k2)
    clear K F k2
    have K:=KN
    have F:=FN
    clear KN FN
    obtain⟨p0,f0, -⟩:=F.out.rules;have z0:=F.out.1.lt
    go_wp2_with fail
    go_ret
    exact⟨none,0,rfl,.inl rfl,⟨fun _=>rfl,(fun x hx=>by cases hx)⟩,K.out⟩
   ·have hk:k≤n:=by omega
    clear hh'
    go_enter Tryz.func146,Tryz.ntmps146
    go_wp2_with fail
    have K0:Same w (w.alloc (.cells #[.int .i64 f,.int .i64 k] 163)):=(Kept.refl _ w).alloc _
    have F0:Fr (w.alloc (.cells #[.int .i64 f,.int .i64 k] 163)) [(w.heap.size,#[.int .i64 f,.int .i64 k],163)]:=⟨Blk.new w _ _,trivial⟩
    have K:=qh K0
    have F:=qh F0
    clear K0 F0
    refine(MA.out _).mono ?_
    rintro e w2 ⟨rfl,k2⟩
    have KN:=qh (K.out.trans k2)
    have FN:=qh (F.out.same k2)
    clear K F k2
    have K:=KN
    have F:=FN
    clear KN FN
    obtain⟨p0,f0, -⟩:=F.out.rules;have z0:=F.out.1.lt
    go_wp2_with fail
    go_ret
    exact⟨none,0,rfl,.inl rfl,⟨fun _=>rfl,(fun x hx=>by cases hx)⟩,K.out⟩
  ·replace hh:=hh.1 rfl
   obtain⟨G,hG⟩:∃G:Nat,f+4*n=(G:Int):=⟨(f+4*n).toNat,by omega⟩
   rw[if_pos ⟨rfl,rfl⟩]at hL
   have SN:=qh fun i=>secs_snoc f n i
   obtain⟨hm0,hm1,hm2,hm3⟩:=hm
   obtain⟨hh0,hh1⟩:=hh
   have gb2:(0:Int)≤4*n:=by omega
   have gb3:4*n≤4096:=by omega
   have gb4:(G:Int)<10000:=by omega
   have HL:=qh hL
   have HGT:Hid ((f+4*n).toNat=G):=by show _=_;omega
   clear hL
   go_enter Tryz.func146,Tryz.ntmps146
   go_wp2_with fail
   have K0:Same w (w.alloc (.cells #[.int .i64 f,.int .i64 k] 163)):=(Kept.refl _ w).alloc _
   have F0:Fr (w.alloc (.cells #[.int .i64 f,.int .i64 k] 163)) [(w.heap.size,#[.int .i64 f,.int .i64 k],163)]:=⟨Blk.new w _ _,trivial⟩
   have K:=qh K0
   have F:=qh F0
   clear K0 F0
   refine(MA.out _).mono ?_
   rintro e w2 ⟨rfl,k2⟩
   have KN:=qh (K.out.trans k2)
   have FN:=qh (F.out.same k2)
   clear K F k2
   have K:=KN
   have F:=FN
   clear KN FN
   obtain⟨p0,f0, -⟩:=F.out.rules;have z0:=F.out.1.lt
   go_wp2_with fail
   clear p0 f0 z0
   go_loopw [5,6] (fun lv t wr=>∃i:Nat,t=.int .i64 i∧i≤4∧OwnN wr (w.heap.size+1) 3 .i64 lv ((List.range i).map (fun j=>(f+4*n).toNat+j))∧Fr wr [(w.heap.size,#[.int .i64 f,.int .i64 k],163)]∧Same w wr) (fun _ t _=>4 - (intOf t).toNat)
   case atStart=>exact⟨0,rfl,by omega,⟨rfl,.inl ⟨rfl,rfl⟩⟩,F.out,K.out⟩
   case round=>
    clear F K
    obtain⟨i,rfl,hi,ho,hf,hk⟩:=hrel
    have HO:=qh ho;have HF:=qh hf;have HK:=qh hk
    obtain⟨p0,f0, -⟩:=hf.rules
    have z0:=hf.1.lt
    clear ho hf hk
    by_cases hgo:i<4
    ·have h1:(i:Int)<4:=by omega
     have h0:(0:Int)≤(i:Int):=by omega
     have sn:=SN.out i
     rw[HGT.out]at sn HO
     obtain⟨l0,hl0⟩:∃l0,(List.range i).map (fun j=>G+j)=l0:=⟨_,rfl⟩
     have hlen:l0.length=i:=by rw[←hl0];simp
     rw[hl0]at sn HO
     have SN1:=qh sn
     clear sn hl0
     have kB:Same wr (wr.alloc (.cells #[.int .i64 ((G:Int)+(i:Int))] 3)):=(Kept.refl _ wr).alloc _
     obtain⟨v5,w5,hrun,h5,g5, -⟩:=app_facts (P:=Tryz.prog) (wr.alloc (.cells #[.int .i64 ((G:Int)+(i:Int))] 3)) 88 88 (w.heap.size+1) 3 .i64 8 Tryz.underlying88 (by kernel_rfl) (by decide) u5 l0 (HO.out.same kB) (some ⟨wr.heap.size,0,none⟩) 1 1 [G+i] rfl (.inr ⟨wr.heap.size,0,rfl,by simp,fun j u hu=>by rcases j with _|j;(· simp at hu;subst hu;rw[Int.natCast_add];exact(Blk.new wr _ _).cell 0 rfl);(· simp at hu)⟩) (fun h=>by cases h) (by simp;omega) (Nat.le_trans (by omega) kB.size)
     obtain⟨aok,aV,aW⟩:=app_of hrun
     have kg:Kept (fun j=>u5.ownBlock=some j) (wr.alloc (.cells #[.int .i64 ((G:Int)+(i:Int))] 3)) w5:=(Kept.refl _ _).grown g5 (fun k hk _=>hk)
     have F5:=qh ((HF.out.same kB).kept kg (fun x hx q=>by have:=(World.ownsRow.lt HO.out _ q).1;simp at hx;subst hx;simp at this;omega))
     have K5:=qh ((HK.out.trans kB).grownNew g5 (fun k hk=>by have:=(World.ownsRow.lt HO.out _ hk).1;omega))
     have H5:=qh h5
     clear hrun h5 g5 kg kB HO HF HK
     go_wp2_with fail
     go_roundw
     case rel=>exact⟨i+1,by go_num,by omega,by rw[HGT.out,SN1.out];exact H5.out,F5.out,K5.out⟩
     case measure=>simp[intOf];omega
    ·have e:i=4:=by omega
     subst e
     rw[HL.out]at HO
     obtain⟨a4,l4,c4,rfl,hl4,hz4,n4, -⟩:=HO.out.rd
     have far4:Hid (Far w a4):=fun x hx=>by have:=(World.ownsRow.lt HO.out x.block (by rw[hx];rfl)).1;omega
     clear HO
     go_wp2_with fail
     go_ret
     exact⟨a4,c4,by rw[hl4.out];rfl,n4.out,⟨hz4.out,far4.out⟩,HK.out⟩
theorem rb_write_err(a:Option Addr)(c:Nat)(D:Dsk)(hl:D.s.length≤4096)(f k n:Int)(ba:Option Addr)(bl bc:Nat)(w:World)(hs:SecsAt w a D.s)(E:Nat)(hE:atA D.s.length f k n=E)(h0:E≠0):
 Calls Tryz.prog 114 #[refV a D.s.length c D,areaV f k,.int .i64 n,.slice ba bl bc] w fun e w'=>RefT w w' a e D E:=by
 have AT:=qh fun w'=>rb_at a D.s.length c D rfl hl f k n w'
 rw[hE]at AT
 have g0:¬(E:Int)=0:=by omega
 have HS:=qh hs
 clear hE hs
 obtain⟨s,off,calls,after,done⟩:=D
 simp only[refV]at AT ⊢
 unfold areaV at AT ⊢
 dsimp only at hl HS AT ⊢
 go_enter Tryz.func114,Tryz.ntmps114
 go_wp2_with fail
 have K0:Same w (((w.alloc (.cells #[.slice a s.length c,.bool off,.int .i64 calls,.int .i64 after,.bool done] 104)).alloc (.cells #[.int .i64 f,.int .i64 k] 163)).alloc (.cells #[.slice none 0 0,.bool false,.int .i64 0,.int .i64 0,.bool false] 104)):=(((Kept.refl _ w).alloc _).alloc _).alloc _
 have F0:Fr (((w.alloc (.cells #[.slice a s.length c,.bool off,.int .i64 calls,.int .i64 after,.bool done] 104)).alloc (.cells #[.int .i64 f,.int .i64 k] 163)).alloc (.cells #[.slice none 0 0,.bool false,.int .i64 0,.int .i64 0,.bool false] 104)) [(w.heap.size,#[.slice a s.length c,.bool off,.int .i64 calls,.int .i64 after,.bool done],104),(w.heap.size+1,#[.int .i64 f,.int .i64 k],163),(w.heap.size+1+1,#[.slice none 0 0,.bool false,.int .i64 0,.int .i64 0,.bool false],104)]:=⟨((Blk.new w _ _).alloc _).alloc _,(Blk.new' _ _ _ (by simp)).alloc _,Blk.new' _ _ _ (by simp),trivial⟩
 have K:=qh K0
 have F:=qh F0
 clear K0 F0
 refine(AT.out _).mono ?_
 rintro e w2 ⟨rfl,k2⟩
 have KN:=qh (K.out.trans k2)
 have FN:=qh (F.out.same k2)
 clear K F k2
 have K:=KN
 have F:=FN
 clear KN FN
 obtain⟨p0,f0,p1,f1,p2,f2, -⟩:=F.out.rules;have z0:=F.out.1.lt;have z1:=F.out.2.1.lt;have z2:=F.out.2.2.1.lt
 have BQ:=qh F.out.2.2.1
 go_wp2_with fail
 refine bodyPost_ret (results_two_tmp rfl _ _ (w.heap.size+1+1) 104 #[.slice a s.length c,.bool off,.int .i64 calls,.int .i64 after,.bool done] _ rfl ?_ Tryz.underlying104 rfl (by kernel_rfl)) rfl ?_
 ·refine Blk.set5 (v0:=.slice none 0 0) (v1:=.bool false) (v2:=.int .i64 0) (v3:=.int .i64 0) (v4:=.bool false) ?_
  exact BQ.out
 ·refine RefT.of (D:=⟨s,off,calls,after,done⟩) HS.out ?_
  repeat(with_reducible first|exact K.out|refine Kept.setNew ?_ (by dsimp only;omega) _)
end
end
section
open Go.RowKit Go.Sort
theorem rb_write_big(a:Option Addr)(c:Nat)(D:Dsk)(hl:D.s.length≤4096)(f k n:Int)(ba:Option Addr)(bl bc:Nat)(body:List Nat)(hbl:bl=body.length)(hb:Bts body)(hc:bl≤bc)(w:World)(hs:SecsAt w a D.s)(hat:NatsAt w .u8 ba body)(hE:atA D.s.length f k n=0)(hbig:¬body.length≤1016):
 Calls Tryz.prog 114 #[refV a D.s.length c D,areaV f k,.int .i64 n,.slice ba bl bc] w fun e w'=>RefT w w' a e D 5:=by
 have AT:=qh fun w'=>rb_at a D.s.length c D rfl hl f k n w'
 rw[hE]at AT
 have SL:=qh fun w' (kk:Same w w')=>rc_seal ba bl bc body hbl hb hc w' (hat.same kk)
 rw[show sealP body=([],5)from if_neg hbig]at SL
 have SE:=qh fun w'=>rb_sectors f k n w'
 obtain⟨G,hG, -, -⟩:=secsA_eq hE
 rw[hG]at SE
 have HS:=qh hs
 clear hE hs hat hG hbl hb hc
 simp only[refV]at AT ⊢
 unfold areaV at AT SE ⊢
 go_enter Tryz.func114,Tryz.ntmps114
 go_wp2_with fail
 have K0:Same w (((w.alloc (.cells #[.slice a D.s.length c,.bool D.off,.int .i64 D.calls,.int .i64 D.after,.bool D.done] 104)).alloc (.cells #[.int .i64 f,.int .i64 k] 163)).alloc (.cells #[.slice none 0 0,.bool false,.int .i64 0,.int .i64 0,.bool false] 104)):=(((Kept.refl _ w).alloc _).alloc _).alloc _
 have F0:Fr (((w.alloc (.cells #[.slice a D.s.length c,.bool D.off,.int .i64 D.calls,.int .i64 D.after,.bool D.done] 104)).alloc (.cells #[.int .i64 f,.int .i64 k] 163)).alloc (.cells #[.slice none 0 0,.bool false,.int .i64 0,.int .i64 0,.bool false] 104)) [(w.heap.size,#[.slice a (D).s.length c,.bool (D).off,.int .i64 (D).calls,.int .i64 (D).after,.bool (D).done],104),(w.heap.size+1,#[.int .i64 f,.int .i64 k],163),(w.heap.size+1+1,#[.slice none 0 0,.bool false,.int .i64 0,.int .i64 0,.bool false],104)]:=⟨((Blk.new w _ _).alloc _).alloc _,(Blk.new' _ _ _ (by simp)).alloc _,Blk.new' _ _ _ (by simp),trivial⟩
 have K:=qh K0
 have F:=qh F0
 clear K0 F0
 refine(AT.out _).mono ?_
 rintro e w2 ⟨rfl,k2⟩
 have KN:=qh (K.out.trans k2)
 have FN:=qh (F.out.same k2)
 clear K F k2
 have K:=KN
 have F:=FN
 clear KN FN
 obtain⟨p0,f0,p1,f1,p2,f2, -⟩:=F.out.rules;have z0:=F.out.1.lt;have z1:=F.out.2.1.lt;have z2:=F.out.2.2.1.lt
 go_wp2_with fail
 refine(SL.out _ K.out).mono ?_
 rintro e w3 ⟨a3,c3,rfl, -, -, -,k3⟩
 clear p0 f0 p1 f1 p2 f2 z0 z1 z2
 have KN:=qh (K.out.trans k3)
 have FN:=qh (F.out.same k3)
 clear K F k3
 have K:=KN
 have F:=FN
 clear KN FN
 obtain⟨p0,f0,p1,f1,p2,f2, -⟩:=F.out.rules;have z0:=F.out.1.lt;have z1:=F.out.2.1.lt;have z2:=F.out.2.2.1.lt
 go_wp2_with fail
 refine(SE.out _).mono ?_
 rintro e w4 ⟨a4,c4,rfl, -, -,k4⟩
 clear p0 f0 p1 f1 p2 f2 z0 z1 z2
 have KN:=qh (K.out.trans k4)
 have FN:=qh (F.out.same k4)
 clear K F k4
 have K:=KN
 have F:=FN
 clear KN FN
 obtain⟨p0,f0,p1,f1,p2,f2, -⟩:=F.out.rules;have z0:=F.out.1.lt;have z1:=F.out.2.1.lt;have z2:=F.out.2.2.1.lt
 go_wp2_with fail
 go_loopw [10,13] (fun x t wr=>x=.int .i64 5∧t=.int .i64 0∧wr=w4) (fun _ _ _=>0)
 case atStart=>exact⟨rfl,rfl,rfl⟩
 case round=>
  obtain⟨rfl,rfl,rfl⟩:=hrel
  have BQ:=qh F.out.2.2.1
  go_wp2_with fail
  refine bodyPost_ret (results_two_tmp rfl _ _ (w.heap.size+1+1) 104 #[.slice a (D).s.length c,.bool (D).off,.int .i64 (D).calls,.int .i64 (D).after,.bool (D).done] _ rfl ?_ Tryz.underlying104 rfl (by kernel_rfl)) rfl ?_
  ·refine Blk.set5 (v0:=.slice none 0 0) (v1:=.bool false) (v2:=.int .i64 0) (v3:=.int .i64 0) (v4:=.bool false) ?_
   exact BQ.out
  ·refine RefT.of HS.out ?_
   repeat(with_reducible first|exact K.out|refine Kept.setNew ?_ (by dsimp only;omega) _)
theorem rb_write_ok(a:Option Addr)(c:Nat)(D:Dsk)(hok:D.OK)(f k n:Int)(ba:Option Addr)(bl bc:Nat)(body:List Nat)(hbl:bl=body.length)(hb:Bts body)(hc:bl≤bc)(w:World)(hs:SecsAt w a D.s)(hat:NatsAt w .u8 ba body)(hE:atA D.s.length f k n=0)(hbig:body.length≤1016)(R:Dsk×Nat)(hR:R=wrs D (f+4*n).toNat (chunks (sealC body))):
 Calls Tryz.prog 114 #[refV a D.s.length c D,areaV f k,.int .i64 n,.slice ba bl bc] w fun e w'=>RefT w w' a e R.1 R.2:=by
 have hl:=hok.few
 have AT:=qh fun w'=>rb_at a D.s.length c D rfl hl f k n w'
 rw[hE]at AT
 have SL:=qh fun w' (kk:Same w w')=>rc_seal ba bl bc body hbl hb hc w' (hat.same kk)
 rw[show sealP body=(sealC body,0)from if_pos hbig]at SL
 have SE:=qh fun w'=>rb_sectors f k n w'
 obtain⟨G,hG,hG1,hG2⟩:=secsA_eq hE
 rw[hG]at SE
 rw[show(f+4*n).toNat=G from by omega]at hR
 have HR:=qh hR
 have HS:=qh hs
 have SC:=qh (sealC_len hbig)
 have SB:=qh (sealC_bts hbig hb)
 obtain⟨L,hL⟩:∃L,sealC body=L:=⟨_,rfl⟩
 rw[hL]at SL SC SB HR
 have OK:=qh hok
 clear hE hs hat hG hbl hb hc hR hL hG1 hG2 hl hok
 simp only[refV]at AT ⊢
 simp only[Int.natCast_zero]at AT SL
 unfold areaV at AT SE ⊢
 go_enter Tryz.func114,Tryz.ntmps114
 go_wp2_with fail
 have K0:Same w (((w.alloc (.cells #[.slice a D.s.length c,.bool D.off,.int .i64 D.calls,.int .i64 D.after,.bool D.done] 104)).alloc (.cells #[.int .i64 f,.int .i64 k] 163)).alloc (.cells #[.slice none 0 0,.bool false,.int .i64 0,.int .i64 0,.bool false] 104)):=(((Kept.refl _ w).alloc _).alloc _).alloc _
 have F0:Fr (((w.alloc (.cells #[.slice a D.s.length c,.bool D.off,.int .i64 D.calls,.int .i64 D.after,.bool D.done] 104)).alloc (.cells #[.int .i64 f,.int .i64 k] 163)).alloc (.cells #[.slice none 0 0,.bool false,.int .i64 0,.int .i64 0,.bool false] 104)) [(w.heap.size,#[.slice a (D).s.length c,.bool (D).off,.int .i64 (D).calls,.int .i64 (D).after,.bool (D).done],104),(w.heap.size+1,#[.int .i64 f,.int .i64 k],163),(w.heap.size+1+1,#[.slice none 0 0,.bool false,.int .i64 0,.int .i64 0,.bool false],104)]:=⟨((Blk.new w _ _).alloc _).alloc _,(Blk.new' _ _ _ (by simp)).alloc _,Blk.new' _ _ _ (by simp),trivial⟩
 have K:=qh K0
 have F:=qh F0
 clear K0 F0
 refine(AT.out _).mono ?_
 rintro e w2 ⟨rfl,k2⟩
 have KN:=qh (K.out.trans k2)
 have FN:=qh (F.out.same k2)
 clear K F k2
 have K:=KN
 have F:=FN
 clear KN FN
 obtain⟨p0,f0,p1,f1,p2,f2, -⟩:=F.out.rules;have z0:=F.out.1.lt;have z1:=F.out.2.1.lt;have z2:=F.out.2.2.1.lt
 go_wp2_with fail
 refine(SL.out _ K.out).mono ?_
 rintro e w3 ⟨a3,c3,rfl,n3,hc3,hf3,k3⟩
 clear p0 f0 p1 f1 p2 f2 z0 z1 z2
 have N3:=qh n3
 have F3:=qh (show∀x,a3=some x→w.heap.size+3≤x.block from fun x hx=>by have h1:=hf3 x hx;have h2:=F.out.2.2.1.lt;omega)
 have hc4:1024≤c3:=by have:=SC.out;omega
 have KN:=qh (K.out.trans k3)
 have FN:=qh (F.out.same k3)
 clear K F k3
 have K:=KN
 have F:=FN
 clear KN FN
 clear n3 hf3 hc3
 obtain⟨p0,f0,p1,f1,p2,f2, -⟩:=F.out.rules;have z0:=F.out.1.lt;have z1:=F.out.2.1.lt;have z2:=F.out.2.2.1.lt
 go_wp2_with fail
 refine(SE.out _).mono ?_
 rintro e w4 ⟨a4,c4,rfl,n4,⟨-,hf4⟩,k4⟩
 clear p0 f0 p1 f1 p2 f2 z0 z1 z2
 have N4:=qh n4
 have F4:=qh (show∀x,a4=some x→w.heap.size+3≤x.block from fun x hx=>by have h1:=hf4 x hx;have h2:=F.out.2.2.1.lt;omega)
 have N5:=qh (N3.out.same k4)
 have KN:=qh (K.out.trans k4)
 have FN:=qh (F.out.same k4)
 clear K F k4
 have K:=KN
 have F:=FN
 clear KN FN
 clear n4 hf4 N3
 obtain⟨gb,ob,rfl,hgb⟩:∃gb ob,a3=some ⟨gb,ob,none⟩∧gb<w4.heap.size:=by
  rcases N5.out with q|⟨gb,ob,q,hlt,_⟩
  ·have:=SC.out;rw[q]at this;cases this
  ·exact⟨gb,ob,q,hlt⟩
 obtain⟨gs,os,rfl,hgs⟩:∃gs os,a4=some ⟨gs,os,none⟩∧gs<w4.heap.size:=by
  rcases N4.out with q|⟨gs,os,q,hlt,_⟩
  ·cases q
  ·exact⟨gs,os,q,hlt⟩
 have hgb1:=F3.out _ rfl
 have hgs1:=F4.out _ rfl
 dsimp only at hgb1 hgs1
 have K0:Hid (Kept (fun j=>j=w.heap.size) w4 w4):=Kept.refl _ _
 go_wp2_with fail
 go_loopw [10,13] (fun x t wr=>∃(i E':Nat) (D':Dsk) (a':Option Addr) (c':Nat),t=.int .i64 i∧x=.int .i64 E'∧i≤4∧((E'=0∧wrs D G ((chunks L).take i)=(D',0))∨(E'≠0∧R=(D',E')))∧D'.OK∧D'.s.length=D.s.length∧SecsAt wr a' D'.s∧(a'=a∨Far w a')∧Fr wr [(w.heap.size,#[.slice a' (D').s.length c',.bool (D').off,.int .i64 (D').calls,.int .i64 (D').after,.bool (D').done],104),(w.heap.size+1,#[.int .i64 f,.int .i64 k],163),(w.heap.size+1+1,#[.slice none 0 0,.bool false,.int .i64 0,.int .i64 0,.bool false],104)]∧Kept (fun j=>j=w.heap.size) w4 wr∧Same w wr) (fun _ t _=>4 - (intOf t).toNat)
 case atStart=>exact⟨0,0,D,a,c,rfl,rfl,by omega,.inl ⟨rfl,rfl⟩,OK.out,rfl,HS.out.same K.out,.inl rfl,F.out,K0.out,K.out⟩
 case round=>
  clear K0 F K
  obtain⟨i,E',D',a',c',rfl,rfl,hi,hst,hok',hlen',hsec,hfar,hfr,hk4,hk⟩:=hrel
  have ST:=qh hst;have OK':=qh hok';have LEN:=qh hlen';have SEC:=qh hsec;have FAR:=qh hfar;have F:=qh hfr;have K4:=qh hk4;have K:=qh hk
  have NB:=qh (N5.out.kept hk4 (fun x hx=>by cases hx;dsimp only;omega))
  have NS:=qh (N4.out.kept hk4 (fun x hx=>by cases hx;dsimp only;omega))
  clear hst hok' hlen' hsec hfar hfr hk4 hk
  obtain⟨p0,f0,p1,f1,p2,f2, -⟩:=F.out.rules;have z0:=F.out.1.lt;have z1:=F.out.2.1.lt;have z2:=F.out.2.2.1.lt
  by_cases he0:E'=0
  ·subst he0
   have WR:Hid (wrs D G ((chunks L).take i)=(D',0)):=by
    rcases ST.out with q|q
    ·exact q.2
    ·exact absurd rfl q.1
   clear ST
   by_cases hgo:i<4
   ·have h1:(i:Int)<4:=by omega
    have h0:(0:Int)≤(i:Int):=by omega
    have hci:=nats_get NS.out (i:=i) hgo
    have hgi:([G,G+1,G+2,G+3]:List Nat).getD i 0=G+i:=by
     rcases i with _|_|_|_|i
     ·rfl
     ·rfl
     ·rfl
     ·rfl
     ·omega
    rw[hgi]at hci
    have hst:=wrs_snoc_ok D G ((chunks L).take i) (chunk L i) (by rw[WR.out])
    rw[←take_chunks L hgo,WR.out,List.length_take,show min i (chunks L).length=i from by show min i 4=i;omega]at hst
    have CL:=chunk_len SC.out hgo
    have CB:=chunk_bts SB.out i
    have hsp:chunks L=(chunks L).take (i+1)++(chunks L).drop (i+1):=(List.take_append_drop _ _).symm
    have WOK:=qh (writeD_ok OK'.out ((G+i:Nat):Int) CB)
    have WLN:=qh ((writeD_len D' ((G+i:Nat):Int) (chunk L i)).trans LEN.out)
    have SW:=qh fun w' (kk:Same wr w')=>rs_write a' D'.s.length c' D' rfl OK'.out.few OK'.out.aft ((G+i:Nat):Int) (some ⟨gb,ob+i*256,none⟩) 256 (c3 - i*256) (chunk L i) CL.symm w' (SEC.out.same kk) ((natsAt_chunk NB.out i).same kk)
    obtain⟨W,hW⟩:∃W,writeD D' ((G+i:Nat):Int) (chunk L i)=W:=⟨_,rfl⟩
    rw[hW]at hst WOK WLN
    simp only[hW]at SW
    have HN:Hid ((W.2=0∧wrs D G ((chunks L).take (i+1))=(W.1,0))∨(W.2≠0∧R=(W.1,W.2))):=by
     by_cases hw0:W.2=0
     ·exact .inl ⟨hw0,by rw[hst,←hw0]⟩
     ·refine .inr ⟨hw0,HR.out.trans ?_⟩
      rw[hsp,wrs_err _ _ _ _ (by rw[hst];exact hw0),hst]
    have KN:=qh (Kept.refl (fun _=>False) wr)
    simp only[refV]at SW
    clear hgi hst hsp hW CL CB
    have ex1:IntKind.i64.wrap ((i:Int)*256)=(i:Int)*256:=IntWalk.i64_in _ (by omega)
    have ex2:IntKind.i64.wrap ((i:Int)*256+256)=(i:Int)*256+256:=IntWalk.i64_in _ (by omega)
    have b1:(i:Int)*256+256≤(c3:Int):=by omega
    have b2:(0:Int)≤(i:Int)*256:=by omega
    have b3:(0:Int)≤(i:Int)*256+256:=by omega
    have b4:(i:Int)*256≤(i:Int)*256+256:=by omega
    have b5:((i:Int)*256).toNat=i*256:=by omega
    have b6:((i:Int)*256+256).toNat=i*256+256:=by omega
    have b7:¬c3=i*256:=by omega
    go_wp2_with fail
    go_region_with ((go_at_call 113;refine(SW.out _ (by with_reducible first|exact KN.out|exact KN.out.drew)).mono ?_;rintro e w6 ⟨a6,c6,rfl,⟨hs6,hf6⟩,k6⟩;have HS6:=qh hs6;have HF6:=qh hf6;have KN':=qh (show Same wr w6 from Kept.trans (by with_reducible first|exact KN.out|exact KN.out.drew) k6);clear KN hs6 hf6 k6;have KN:=KN';clear KN';obtain⟨q1,e1, -⟩:=(F.out.same KN.out).rules;have y1:=(F.out.same KN.out).1.lt;simp only[refV]))
    all_goals
     have K6:=qh (K.out.trans KN.out)
     have hfx:Hid (a6=a∨Far w a6):=by
      rcases HF6.out with q|q
      ·rw[q];exact FAR.out
      ·exact .inr (q.mono K.out.size)
     have R6:=qh (F.out.same KN.out)
     clear SW SEC FAR OK' NB NS WR LEN AT SL SE p0 f0 p1 f1 p2 f2 HF6
     go_wp2_with fail
     go_roundw
     case rel=>
      refine⟨i+1,W.2,W.1,a6,c6,by go_num,rfl,by omega,HN.out,WOK.out,WLN.out,?_,hfx.out,⟨?_,?_,?_,trivial⟩,?_,?_⟩
      ·refine SecsAt.apart HS6.out R6.out.1 ?_ (nostr5 _ _ _ _ _ _ _)
       repeat(with_reducible first|exact Kept.refl _ _|refine Kept.drew ?_ |refine Kept.setG ?_ _ _)
      ·with_reducible refine Blk.set5 (v0:=.slice a' D'.s.length c') (v1:=.bool D'.off) (v2:=.int .i64 D'.calls) (v3:=.int .i64 D'.after) (v4:=.bool D'.done) ?_
       have b9:=R6.out.1
       repeat(with_reducible first|exact b9|refine Blk.drew ?_)
      ·refine R6.out.2.1.kept (fp:=fun j=>j=w.heap.size) ?_ (by omega)
       repeat(with_reducible first|exact Kept.refl _ _|refine Kept.drew ?_ |refine Kept.setG ?_ _ _)
      ·refine R6.out.2.2.1.kept (fp:=fun j=>j=w.heap.size) ?_ (by omega)
       repeat(with_reducible first|exact Kept.refl _ _|refine Kept.drew ?_ |refine Kept.setG ?_ _ _)
      ·have ks:Kept (fun j=>j=w.heap.size) w4 w6:=K4.out.trans (KN.out.mono (fun _ _ h=>h.elim))
       repeat(with_reducible first|exact ks|refine Kept.drew ?_ |refine Kept.setG ?_ _ _)
      ·repeat(with_reducible first|exact K6.out|refine Kept.drew ?_ |refine Kept.setNew ?_ (by dsimp only;omega) _)
     case measure=>simp[intOf];omega
   ·have e:i=4:=by omega
    subst e
    have HRR:Hid (R=(D',0)):=HR.out.trans WR.out
    have BQ:=qh F.out.2.2.1
    go_wp2_with fail
    refine bodyPost_ret (results_two_tmp rfl _ _ (w.heap.size+1+1) 104 #[.slice a' (D').s.length c',.bool (D').off,.int .i64 (D').calls,.int .i64 (D').after,.bool (D').done] _ rfl ?_ Tryz.underlying104 rfl (by kernel_rfl)) rfl ?_
    ·refine Blk.set5 (v0:=.slice none 0 0) (v1:=.bool false) (v2:=.int .i64 0) (v3:=.int .i64 0) (v4:=.bool false) ?_
     exact BQ.out
    ·rw[HRR.out]
     refine⟨a',c',rfl,⟨?_,FAR.out⟩,?_⟩
     ·refine SecsAt.apart SEC.out BQ.out ?_ (nostr5 _ _ _ _ _ _ _)
      repeat(with_reducible first|exact Kept.refl _ _|refine Kept.drew ?_ |refine Kept.setG ?_ _ _)
     ·repeat(with_reducible first|exact K.out|refine Kept.setNew ?_ (by dsimp only;omega) _)
  ·have HRR:Hid (R=(D',E')):=by
    rcases ST.out with q|q
    ·exact absurd q.1 he0
    ·exact q.2
   have ge:¬(E':Int)=0:=by omega
   have BQ:=qh F.out.2.2.1
   clear ST
   have hi4:(i:Int)≤4:=by omega
   by_cases hgo:i<4
   ·have h1:(i:Int)<4:=by omega
    go_wp2_with fail
    refine bodyPost_ret (results_two_tmp rfl _ _ (w.heap.size+1+1) 104 #[.slice a' (D').s.length c',.bool (D').off,.int .i64 (D').calls,.int .i64 (D').after,.bool (D').done] _ rfl ?_ Tryz.underlying104 rfl (by kernel_rfl)) rfl ?_
    ·refine Blk.set5 (v0:=.slice none 0 0) (v1:=.bool false) (v2:=.int .i64 0) (v3:=.int .i64 0) (v4:=.bool false) ?_
     exact BQ.out
    ·rw[HRR.out]
     refine⟨a',c',rfl,⟨?_,FAR.out⟩,?_⟩
     ·refine SecsAt.apart SEC.out BQ.out ?_ (nostr5 _ _ _ _ _ _ _)
      repeat(with_reducible first|exact Kept.refl _ _|refine Kept.drew ?_ |refine Kept.setG ?_ _ _)
     ·repeat(with_reducible first|exact K.out|refine Kept.setNew ?_ (by dsimp only;omega) _)
   ·have h1:¬(i:Int)<4:=by omega
    go_wp2_with fail
    refine bodyPost_ret (results_two_tmp rfl _ _ (w.heap.size+1+1) 104 #[.slice a' (D').s.length c',.bool (D').off,.int .i64 (D').calls,.int .i64 (D').after,.bool (D').done] _ rfl ?_ Tryz.underlying104 rfl (by kernel_rfl)) rfl ?_
    ·refine Blk.set5 (v0:=.slice none 0 0) (v1:=.bool false) (v2:=.int .i64 0) (v3:=.int .i64 0) (v4:=.bool false) ?_
     exact BQ.out
    ·rw[HRR.out]
     refine⟨a',c',rfl,⟨?_,FAR.out⟩,?_⟩
     ·refine SecsAt.apart SEC.out BQ.out ?_ (nostr5 _ _ _ _ _ _ _)
      repeat(with_reducible first|exact Kept.refl _ _|refine Kept.drew ?_ |refine Kept.setG ?_ _ _)
     ·repeat(with_reducible first|exact K.out|refine Kept.setNew ?_ (by dsimp only;omega) _)
theorem rb_write(a:Option Addr)(c:Nat)(D:Dsk)(hok:D.OK)(f k n:Int)(ba:Option Addr)(bl bc:Nat)(body:List Nat)(hbl:bl=body.length)(hb:Bts body)(hc:bl≤bc)(w:World)(hs:SecsAt w a D.s)(hat:NatsAt w .u8 ba body):
 Calls Tryz.prog 114 #[refV a D.s.length c D,areaV f k,.int .i64 n,.slice ba bl bc] w fun e w'=>RefT w w' a e (writeB D f k n body).1 (writeB D f k n body).2:=by
 unfold writeB
 by_cases hE:atA D.s.length f k n=0
 ·rw[if_pos hE]
  by_cases hbig:body.length≤1016
  ·rw[if_pos hbig]
   exact rb_write_ok a c D hok f k n ba bl bc body hbl hb hc w hs hat hE hbig _ rfl
  ·rw[if_neg hbig]
   exact rb_write_big a c D hok.few f k n ba bl bc body hbl hb hc w hs hat hE hbig
 ·rw[if_neg hE]
  exact rb_write_err a c D hok.few f k n ba bl bc w hs _ rfl hE
end
section
open Go.RowKit Go.Sort
theorem conv_bytes(xs:List Nat)(hb:Bts xs)(w:World):∃c w',(convert 9 32 (.string (strN xs))).run Tryz.prog w=.ok (.slice (some ⟨w.heap.size,0,none⟩) xs.length c) w'∧NatsAt w' .u8 (some ⟨w.heap.size,0,none⟩) xs∧xs.length≤c∧Same w w':=by
 have h:=Lib.run_convert_string_bytes (P:=Tryz.prog) w 9 32 5 (strN xs) Tryz.underlying9 Tryz.underlying32 Tryz.underlying5
 rw[strN_len]at h
 refine⟨_,_,h,?_,?_,?_⟩
 ·refine .inr ⟨w.heap.size,0,rfl,by rw[Lib.bytesWorld_size];omega,fun i x hx=>?_⟩
  have hi:i<xs.length:=(List.getElem?_eq_some_iff.1 hx).1
  rw[Nat.zero_add,Lib.bytesWorld_cell _ _ _ _ (by rw[strN_len];exact hi)]
  have e:(strN xs).data.toList=xs.map UInt8.ofNat:=by unfold strN;simp
  rw[e,List.getD_eq_getElem?_getD,List.getElem?_map,hx]
  have:=hb x (List.mem_of_getElem? hx)
  simp[Nat.mod_eq_of_lt this]
 ·exact grownCap_ge w xs.length 0 _
 ·exact⟨rfl,rfl,rfl,by rw[Lib.bytesWorld_size];omega,fun k hk _=>Lib.bytesWorld_at_old w _ _ k hk⟩
def flatR(D:Dsk)(G i:Nat):List Nat:=(List.range i).flatMap fun j=>hasAt D (G+j)
theorem flatR_succ(D:Dsk)(G i:Nat):flatR D G (i+1)=flatR D G i++hasAt D (G+i):=by
 unfold flatR
 rw[List.range_succ,List.flatMap_append]
 simp
theorem flatR_four(D:Dsk)(G:Nat):flatR D G 4=partR D G 4:=by
 unfold flatR partR
 simp
theorem rb_read(a:Option Addr)(c:Nat)(D:Dsk)(hok:D.OK)(f k n:Int)(w:World)(hs:SecsAt w a D.s):
 Calls Tryz.prog 104 #[refV a D.s.length c D,areaV f k,.int .i64 n] w fun e w'=>Told w w' e (readB D f k n):=by
 have AT:=qh fun w'=>rb_at a D.s.length c D rfl hok.few f k n w'
 have SE:=qh fun w'=>rb_sectors f k n w'
 have OK:=qh hok
 have HS:=qh hs
 obtain⟨E,hE⟩:∃E,atA D.s.length f k n=E:=⟨_,rfl⟩
 obtain⟨R,hR⟩:∃R,readB D f k n=R:=⟨_,rfl⟩
 have hw:R=if E=0 then(if D.off then([],8)else openP (hasAt D (f+4*n).toNat++hasAt D ((f+4*n).toNat+1)++hasAt D ((f+4*n).toNat+2)++hasAt D ((f+4*n).toNat+3)))else([],E):=by rw[←hR,←hE];rfl
 rw[hR]
 simp only[hE]at AT
 clear hR hok hs
 by_cases h0:E=0
 ·subst h0
  rw[if_pos rfl]at hw
  obtain⟨G,hG,hG1,hG2⟩:=secsA_eq hE
  rw[show(f+4*n).toNat=G from by omega,←partR_end,←flatR_four]at hw
  simp only[hG]at SE
  simp only[Int.natCast_zero]at AT
  have SR:=qh fun w' (kk:Same w w') (q:Int)=>rs_read a D.s.length c D rfl q w' (HS.out.same kk)
  simp only[refV]at AT SR ⊢
  unfold areaV at AT SE ⊢
  clear hG hG1 hE
  go_enter Tryz.func104,Tryz.ntmps104
  go_wp2_with fail
  have K0:Same w ((w.alloc (.cells #[.slice a D.s.length c,.bool D.off,.int .i64 D.calls,.int .i64 D.after,.bool D.done] 104)).alloc (.cells #[.int .i64 f,.int .i64 k] 163)):=((Kept.refl _ w).alloc _).alloc _
  have F0:Fr ((w.alloc (.cells #[.slice a D.s.length c,.bool D.off,.int .i64 D.calls,.int .i64 D.after,.bool D.done] 104)).alloc (.cells #[.int .i64 f,.int .i64 k] 163)) [(w.heap.size,#[.slice a D.s.length c,.bool D.off,.int .i64 D.calls,.int .i64 D.after,.bool D.done],104),(w.heap.size+1,#[.int .i64 f,.int .i64 k],163)]:=⟨(Blk.new w _ _).alloc _,Blk.new' _ _ _ (by simp),trivial⟩
  have K:=qh K0
  have F:=qh F0
  clear K0 F0
  refine(AT.out _).mono ?_
  rintro e w2 ⟨rfl,k2⟩
  have KN:=qh (K.out.trans k2)
  have FN:=qh (F.out.same k2)
  clear K F k2
  have K:=KN
  have F:=FN
  clear KN FN
  obtain⟨p0,f0,p1,f1, -⟩:=F.out.rules;have z0:=F.out.1.lt;have z1:=F.out.2.1.lt
  go_wp2_with fail
  refine(SE.out _).mono ?_
  rintro e w3 ⟨a3,c3,rfl,n3, -,k3⟩
  clear p0 f0 p1 f1 z0 z1
  have N3:=qh n3
  have KN:=qh (K.out.trans k3)
  have FN:=qh (F.out.same k3)
  clear K F k3
  have K:=KN
  have F:=FN
  clear KN FN
  clear n3
  obtain⟨gs,os,rfl,hgs⟩:∃gs os,a3=some ⟨gs,os,none⟩∧gs<w3.heap.size:=by
   rcases N3.out with q|⟨gs,os,q,hlt,_⟩
   ·cases q
   ·exact⟨gs,os,q,hlt⟩
  have HW:=qh hw
  have K0:Hid (Same w3 w3):=Kept.refl _ _
  clear hw
  go_wp2_with fail
  go_loopw [9,12] (fun x t wr=>∃i:Nat,t=.int .i64 i∧x=.string (strN (flatR D G i))∧i≤4∧(0<i→D.off=false)∧Same w3 wr) (fun _ t _=>4 - (intOf t).toNat)
  case atStart=>exact⟨0,rfl,rfl,by omega,(fun h=>by omega),K0.out⟩
  case round=>
   clear K0
   obtain⟨i,rfl,rfl,hi,hoffi,hk3⟩:=hrel
   have K3:=qh hk3
   have KK:=qh (K.out.trans hk3)
   have FF:=qh (F.out.same hk3)
   have OFI:=qh hoffi
   obtain⟨p0,f0,p1,f1, -⟩:=FF.out.rules
   have z0:=FF.out.1.lt
   clear hk3 hoffi
   by_cases hgo:i<4
   ·have h1:(i:Int)<4:=by omega
    have h0:(0:Int)≤(i:Int):=by omega
    have hci:=nats_get (N3.out.same K3.out) (i:=i) hgo
    have hgi:([G,G+1,G+2,G+3]:List Nat).getD i 0=G+i:=by
     rcases i with _|_|_|_|i
     ·rfl
     ·rfl
     ·rfl
     ·rfl
     ·omega
    rw[hgi]at hci
    have SRI:=qh fun w' (kk:Same wr w')=>SR.out w' (KK.out.trans kk) ((G+i:Nat):Int)
    have QQ:Hid (∀w',Same wr w'→((∀i,w'.cell? ⟨w.heap.size,i,none⟩=(#[.slice a D.s.length c,.bool D.off,.int .i64 D.calls,.int .i64 D.after,.bool D.done]:Array Value)[i]?)∧w'.cell? ⟨gs,os+i,none⟩=some (.int .i64 ((G+i:Nat):Int)))):=by
     intro w' kk
     exact⟨cell_blk (FF.out.same kk).1,(kk.cell (p:=⟨gs,os+i,none⟩) (Nat.lt_of_lt_of_le hgs K3.out.size) (fun h=>h)).trans hci⟩
    have KN:=qh (Kept.refl (fun _=>False) wr)
    clear hgi hci
    cases hoff:D.off
    ·have RD:readD D ((G+i:Nat):Int)=(hasAt D (G+i),0):=read_live hoff (by omega)
     simp only[RD,hoff,Int.natCast_zero]at SRI
     simp only[hoff]at QQ p0 SR FF HW
     have FS:=flatR_succ D G i
     have hsa:=strN_app (flatR D G i) (hasAt D (G+i))
     have hcat:((strN (flatR D G i)).size:Int)+((strN (hasAt D (G+i))).size:Int)≤9223372036854775807:=by
      rw[strN_len,strN_len,hasAt_len OK.out,show(flatR D G i).length=i*256 from flat_len OK.out G i];omega
     rw[←FS]at hsa
     obtain⟨X,hX⟩:∃X,hasAt D (G+i)=X:=⟨_,rfl⟩
     rw[hX]at SRI hsa hcat
     obtain⟨Y,hY⟩:∃Y,flatR D G i=Y:=⟨_,rfl⟩
     obtain⟨Z,hZ⟩:∃Z,flatR D G (i+1)=Z:=⟨_,rfl⟩
     rw[hY]at hsa hcat ⊢
     rw[hZ]at hsa
     have HZ:=qh hZ
     clear RD FS hX hY hZ
     go_wp2_with fail
     go_region_held3 (fun w'=>((∀i,w'.cell? ⟨w.heap.size,i,none⟩=(#[.slice a D.s.length c,.bool false,.int .i64 D.calls,.int .i64 D.after,.bool D.done]:Array Value)[i]?)∧w'.cell? ⟨gs,os+i,none⟩=some (.int .i64 ((G+i:Nat):Int))))
      ((refine QQ.out _ ?_;(with_reducible first|exact KN.out|exact KN.out.drew)))
      ((go_at_call 100;refine(SRI.out _ (by with_reducible first|exact KN.out|exact KN.out.drew)).mono ?_;rintro e w6 ⟨rfl,k6⟩;have KN':=qh (show Same wr w6 from Kept.trans (by with_reducible first|exact KN.out|exact KN.out.drew) k6);clear KN k6;have KN:=KN';clear KN'))
     all_goals
      have K6:=qh (K3.out.trans KN.out)
      clear SRI SR QQ p0 f0 p1 f1
      go_wp2_with fail
      go_roundw
      case rel=>exact⟨i+1,by go_num,by rw[HZ.out],by omega,(fun _=>by first|trivial|exact hoff),(by first|exact K6.out|exact K6.out.drew)⟩
      case measure=>simp[intOf];omega
    ·have e:i=0:=by
      rcases Nat.eq_zero_or_pos i with q|q
      ·exact q
      ·have:=OFI.out q;rw[hoff]at this;cases this
     have RD:readD D ((G+i:Nat):Int)=([],8):=by
      have e8:errD D ((G+i:Nat):Int)=8:=by unfold errD;rw[hoff];rfl
      unfold readD
      rw[if_neg (by rw[e8];decide),e8]
     have HRR:Hid (R=([],8)):=by have:=HW.out;rw[hoff,if_pos rfl]at this;exact this
     simp only[RD,hoff]at SRI
     simp only[hoff]at QQ p0 SR FF
     clear RD e HW
     go_wp2_with fail
     go_region_held3 (fun w'=>((∀i,w'.cell? ⟨w.heap.size,i,none⟩=(#[.slice a D.s.length c,.bool true,.int .i64 D.calls,.int .i64 D.after,.bool D.done]:Array Value)[i]?)∧w'.cell? ⟨gs,os+i,none⟩=some (.int .i64 ((G+i:Nat):Int))))
      ((refine QQ.out _ ?_;(with_reducible first|exact KN.out|exact KN.out.drew)))
      ((go_at_call 100;refine(SRI.out _ (by with_reducible first|exact KN.out|exact KN.out.drew)).mono ?_;rintro e w6 ⟨rfl,k6⟩;have KN':=qh (show Same wr w6 from Kept.trans (by with_reducible first|exact KN.out|exact KN.out.drew) k6);clear KN k6;have KN:=KN';clear KN'))
     all_goals
      have K6:=qh (KK.out.trans KN.out)
      clear SRI SR QQ p0 f0 p1 f1
      go_wp2_with fail
      go_ret2
      rw[HRR.out]
      exact⟨none,0,rfl,.inl rfl,fun _=>rfl,(by first|exact K6.out|exact K6.out.drew)⟩
   ·have e:i=4:=by omega
    subst e
    have hoff:=OFI.out (by decide)
    have hw:=HW.out
    rw[hoff,if_neg (by decide)]at hw
    have HW2:=qh hw
    have hb4:Bts (flatR D G 4):=by rw[flatR_four];exact partR_bts OK.out G
    have hl4:(flatR D G 4).length=1024:=by rw[flatR_four];exact partR_len OK.out G (Nat.le_refl _)
    obtain⟨Y,hY⟩:∃Y,flatR D G 4=Y:=⟨_,rfl⟩
    rw[hY]at hb4 hl4 HW2 ⊢
    obtain⟨c6,w6,hcv,n6,hc6,k6⟩:=conv_bytes Y hb4 wr
    rw[hl4]at hcv hc6
    have RO:=qh (rc_open wr.heap.size 0 c6 hc6 Y hl4 hb4 w6 n6)
    have K6:=qh (KK.out.trans k6)
    clear hw hoff hb4 hl4 hY n6 hc6 k6 HW
    go_wp2_with fail
    refine RO.out.mono ?_
    rw[←HW2.out]
    rintro e w7 ⟨a7,c7,rfl,n7,h7,k7⟩
    have N7:=qh n7
    have H7:=qh h7
    have K7:=qh (K6.out.trans k7)
    clear n7 h7 k7
    go_wp2_with fail
    go_ret2
    exact⟨a7,c7,rfl,N7.out,H7.out,K7.out⟩
 ·rw[if_neg h0]at hw
  have g0:¬(E:Int)=0:=by omega
  subst hw
  simp only[refV]at AT ⊢
  unfold areaV at AT ⊢
  clear hE
  go_enter Tryz.func104,Tryz.ntmps104
  go_wp2_with fail
  have K0:Same w ((w.alloc (.cells #[.slice a D.s.length c,.bool D.off,.int .i64 D.calls,.int .i64 D.after,.bool D.done] 104)).alloc (.cells #[.int .i64 f,.int .i64 k] 163)):=((Kept.refl _ w).alloc _).alloc _
  have F0:Fr ((w.alloc (.cells #[.slice a D.s.length c,.bool D.off,.int .i64 D.calls,.int .i64 D.after,.bool D.done] 104)).alloc (.cells #[.int .i64 f,.int .i64 k] 163)) [(w.heap.size,#[.slice a D.s.length c,.bool D.off,.int .i64 D.calls,.int .i64 D.after,.bool D.done],104),(w.heap.size+1,#[.int .i64 f,.int .i64 k],163)]:=⟨(Blk.new w _ _).alloc _,Blk.new' _ _ _ (by simp),trivial⟩
  have K:=qh K0
  have F:=qh F0
  clear K0 F0
  refine(AT.out _).mono ?_
  rintro e w2 ⟨rfl,k2⟩
  have KN:=qh (K.out.trans k2)
  have FN:=qh (F.out.same k2)
  clear K F k2
  have K:=KN
  have F:=FN
  clear KN FN
  go_wp2_with fail
  go_ret2
  exact⟨none,0,rfl,.inl rfl,fun _=>rfl,K.out⟩
end
section
open Go.RowKit Go.Sort
section
attribute [local go_sem ↓] exec_app semAt_app
attribute [local go_sem] isApp_lit appA appX
end
end
end Go.Proofs.YtmiglhlbhbfodaaGreatDoor
