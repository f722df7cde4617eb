/- GCrc: Crc1, Crc2, Crc3. -/
import Derived.Test.YtmiglhlbhbfodaaGreatDoorGCpy
import Derived.Lib.QuietBelow
import Derived.Deep.QuietTactic
import Derived.BigQuiet
set_option maxHeartbeats 1600000
set_option maxRecDepth 100000
namespace Go.Proofs.YtmiglhlbhbfodaaGreatDoor
section
open Go.RowKit
theorem bits_xor32(a b:Nat)(ha:a<4294967296)(hb:b<4294967296):bits .xor .u32 (a:Int) (b:Int)=((a^^^b:Nat):Int):=by
 have hx:a^^^b<2^32:=Nat.xor_lt_two_pow (by omega) (by omega)
 have h1:(BitVec.ofInt 32 (a:Int)).toNat=a:=by
  rw[BitVec.ofInt_natCast,BitVec.toNat_ofNat];exact Nat.mod_eq_of_lt (by omega)
 have h2:(BitVec.ofInt 32 (b:Int)).toNat=b:=by
  rw[BitVec.ofInt_natCast,BitVec.toNat_ofNat];exact Nat.mod_eq_of_lt (by omega)
 show IntKind.u32.wrap ((BitVec.ofInt 32 (a:Int)^^^BitVec.ofInt 32 (b:Int)).toNat:Int)=_
 rw[BitVec.toNat_xor,h1,h2]
 have hw:∀n:Int,IntKind.u32.wrap n=n % 4294967296:=fun n=>by simp[IntKind.wrap,IntKind.bits,IntKind.signed]
 rw[hw]
 omega
theorem bits_and32(a b:Nat)(ha:a<4294967296)(hb:b<4294967296):bits .and .u32 (a:Int) (b:Int)=((a&&& b:Nat):Int):=by
 have hx:a&&& b<2^32:=Nat.and_lt_two_pow _ (by omega)
 have h1:(BitVec.ofInt 32 (a:Int)).toNat=a:=by
  rw[BitVec.ofInt_natCast,BitVec.toNat_ofNat];exact Nat.mod_eq_of_lt (by omega)
 have h2:(BitVec.ofInt 32 (b:Int)).toNat=b:=by
  rw[BitVec.ofInt_natCast,BitVec.toNat_ofNat];exact Nat.mod_eq_of_lt (by omega)
 show IntKind.u32.wrap ((BitVec.ofInt 32 (a:Int)&&& BitVec.ofInt 32 (b:Int)).toNat:Int)=_
 rw[BitVec.toNat_and,h1,h2]
 have hw:∀n:Int,IntKind.u32.wrap n=n % 4294967296:=fun n=>by simp[IntKind.wrap,IntKind.bits,IntKind.signed]
 rw[hw]
 omega
theorem bits_or8(a b:Nat)(ha:a<256)(hb:b<256):bits .or .u8 (a:Int) (b:Int)=((a|||b:Nat):Int):=by
 have hx:a|||b<2^8:=Nat.or_lt_two_pow (by omega) (by omega)
 have h1:(BitVec.ofInt 8 (a:Int)).toNat=a:=by
  rw[BitVec.ofInt_natCast,BitVec.toNat_ofNat];exact Nat.mod_eq_of_lt (by omega)
 have h2:(BitVec.ofInt 8 (b:Int)).toNat=b:=by
  rw[BitVec.ofInt_natCast,BitVec.toNat_ofNat];exact Nat.mod_eq_of_lt (by omega)
 show IntKind.u8.wrap ((BitVec.ofInt 8 (a:Int)|||BitVec.ofInt 8 (b:Int)).toNat:Int)=_
 rw[BitVec.toNat_or,h1,h2]
 have hw:∀n:Int,IntKind.u8.wrap n=n % 256:=fun n=>by simp[IntKind.wrap,IntKind.bits,IntKind.signed]
 rw[hw]
 omega
def poly:Nat:=79764919
def step1(r:Nat):Nat:=if 2147483648≤r then(2*r) % 4294967296^^^poly else(2*r) % 4294967296
def itS:Nat→Nat→Nat
 |0,r=>r
 |k+1,r=>step1 (itS k r)
def regOf(l:List Nat):Nat:=l.foldl (fun r c=>itS 8 (r^^^c*16777216)) 4294967295
def crcOf(l:List Nat):Nat:=regOf l^^^4294967295
theorem xor32_lt{a b:Nat}(ha:a<4294967296)(hb:b<4294967296):a^^^b<4294967296:=by
 have:a^^^b<2^32:=Nat.xor_lt_two_pow (by omega) (by omega)
 omega
theorem step1_lt{r:Nat}(_h:r<4294967296):step1 r<4294967296:=by
 unfold step1 poly
 split
 ·exact xor32_lt (by omega) (by omega)
 ·omega
theorem itS_lt{r:Nat}(h:r<4294967296)(k:Nat):itS k r<4294967296:=by
 induction k with
 |zero=>exact h
 |succ k ih=>exact step1_lt ih
theorem regOf_snoc(l:List Nat)(c:Nat):regOf (l++[c])=itS 8 (regOf l^^^c*16777216):=by simp[regOf]
theorem regOf_lt(l:List Nat)(h:Bts l):regOf l<4294967296:=by
 have:∀(l:List Nat) (r:Nat),r<4294967296→Bts l→l.foldl (fun r c=>itS 8 (r^^^c*16777216)) r<4294967296:=by
  intro l
  induction l with
  |nil=>intro r hr _;exact hr
  |cons c l ih=>
   intro r hr hb
   have hc:=hb c (by simp)
   have hc2:c*16777216<4294967296:=by omega
   have h1:=xor32_lt hr hc2
   rw[List.foldl_cons]
   refine ih _ ?_ (fun x hx=>hb x (by simp[hx]))
   exact itS_lt h1 8
 unfold regOf
 refine this l 4294967295 ?_ h
 decide
theorem crcOf_lt(l:List Nat)(h:Bts l):crcOf l<4294967296:=xor32_lt (regOf_lt l h) (by decide)
theorem step_prog(n:Nat)(hn:n<4294967296):bits .xor .u32 ((n:Int)*2 % 4294967296) (bits .and .u32 79764919 (-((n:Int) / 2147483648) % 4294967296))=((step1 n:Nat):Int):=by
 have e0:(n:Int)*2 % 4294967296=(((2*n) % 4294967296:Nat):Int):=by omega
 unfold step1 poly
 by_cases h:2147483648≤n
 ·have e1: -((n:Int) / 2147483648) % 4294967296=((4294967295:Nat):Int):=by omega
  rw[if_pos h,e0,e1,show(79764919:Int)=((79764919:Nat):Int)from rfl,bits_and32 _ _ (by decide) (by decide),bits_xor32 _ _ (by omega) (by decide)]
  rfl
 ·have e1: -((n:Int) / 2147483648) % 4294967296=((0:Nat):Int):=by omega
  rw[if_neg h,e0,e1,show(79764919:Int)=((79764919:Nat):Int)from rfl,bits_and32 _ _ (by decide) (by decide),Nat.and_zero,bits_xor32 _ _ (by omega) (by decide),Nat.xor_zero]
theorem cr_byteStep(r:Nat)(hr:r<4294967296)(w:World):
 Calls Tryz.prog 167 #[.int .u32 (r:Nat)] w fun e w'=>e=.returned (.int .u32 (itS 8 r:Nat))∧w'=w:=by
 go_enter Tryz.func167,Tryz.ntmps167
 go_wp2_with fail
 go_loop [0,3] (fun x t=>∃k:Nat,k≤8∧t=.int .i64 k∧x=.int .u32 (itS k r:Nat)) (fun _ t=>8 - (intOf t).toNat)
 case atStart=>exact⟨0,by omega,rfl,rfl⟩
 case round=>
  obtain⟨k,hk,rfl,rfl⟩:=hrel
  have hn:=itS_lt hr k
  have hs:itS (k+1) r=step1 (itS k r):=rfl
  have HS:=qh hs
  obtain⟨n,hnn⟩:∃n,itS k r=n:=⟨_,rfl⟩
  rw[hnn]at hn HS ⊢
  have HN:=qh hnn
  clear hs hnn
  by_cases hgo:k<8
  ·have h1:(k:Int)<8:=by omega
   have h0:(0:Int)≤(k:Int):=by omega
   go_wp2_with fail
   go_round
   case rel=>exact⟨k+1,by omega,by go_num,by rw[step_prog n hn,HS.out]⟩
   case measure=>simp[intOf];omega
  ·have e:k=8:=by omega
   subst e
   go_wp2_with fail
   go_ret
   exact⟨by rw[HN.out];rfl,rfl⟩
theorem cr_step(r:Nat)(hr:r<4294967296)(w:World):
 Calls Tryz.prog 180 #[.int .u32 (r:Nat)] w fun e w'=>e=.returned (.int .u32 (step1 r:Nat))∧w'=w:=by
 have e0:(r:Int)*2 % 4294967296=(((2*r) % 4294967296:Nat):Int):=by omega
 have E0:=qh e0
 clear e0
 by_cases h:2147483648≤r
 ·have hd:(2147483648:Int)≤(r:Int):=by omega
  go_enter Tryz.func180,Tryz.ntmps180
  go_wp2_with fail
  go_ret
  refine⟨ret_int ?_,rfl⟩
  show bits .xor .u32 ((r:Int)*2 % 4294967296) 79764919=_
  rw[E0.out,show(79764919:Int)=((79764919:Nat):Int)from rfl,bits_xor32 _ _ (by omega) (by decide)]
  unfold step1 poly
  rw[if_pos h]
 ·have hd:¬(2147483648:Int)≤(r:Int):=by omega
  go_enter Tryz.func180,Tryz.ntmps180
  go_wp2_with fail
  go_ret
  refine⟨ret_int ?_,rfl⟩
  show(r:Int)*2=_
  unfold step1
  rw[if_neg h]
  omega
def fourOf(r:Nat):List Nat:=[r / 16777216,r / 65536 % 256,r / 256 % 256,r % 256]
theorem cr_four(r:Nat)(hr:r<4294967296)(w:World):
 Calls Tryz.prog 127 #[.int .u32 (r:Nat)] w fun e w'=>∃g,e=.returned (.slice (some ⟨g,0,none⟩) 4 4)∧NatsAt w' .u8 (some ⟨g,0,none⟩) (fourOf r)∧w.heap.size≤g∧Same w w':=by
 have hr2:(r:Int)<4294967296:=by omega
 go_enter Tryz.func127,Tryz.ntmps127
 go_wp2_with fail
 go_ret
 refine⟨w.heap.size,rfl,.inr ⟨w.heap.size,0,rfl,by simp,fun i x hx=>?_⟩,Nat.le_refl _,(Kept.refl _ w).alloc _⟩
 rw[cell_blk (Blk.new w _ _)]
 rcases i with _|_|_|_|i
 ·simp[fourOf]at hx;subst hx;simp
 ·simp[fourOf]at hx;subst hx;simp
 ·simp[fourOf]at hx;subst hx;simp
 ·simp[fourOf]at hx;subst hx;simp
 ·simp[fourOf]at hx
theorem cr_update(a:Option Addr)(n c:Nat)(l:List Nat)(hn:n=l.length)(hb:Bts l)(w:World)(hat:NatsAt w .u8 a l)(hl:n≤1000000):
 Calls Tryz.prog 154 #[.int .u32 0,.slice a n c] w fun e w'=>e=.returned (.int .u32 (crcOf l:Nat))∧w'=w:=by
 subst hn
 have hsg:IntKind.u32.signed=false:=rfl
 have hmx:IntKind.u32.max=4294967295:=rfl
 have hx0:bits .xor .u32 4294967295 0=4294967295:=by decide
 go_enter Tryz.func154,Tryz.ntmps154
 go_wp2_with fail
 go_loop [5,12] (fun x t=>∃k:Nat,k≤l.length∧t=.int .i64 k∧x=.int .u32 (regOf (l.take k):Nat)) (fun _ t=>l.length - (intOf t).toNat)
 case atStart=>exact⟨0,by omega,rfl,rfl⟩
 case round=>
  obtain⟨k,hk,rfl,rfl⟩:=hrel
  have hn:=regOf_lt (l.take k) (hb.take k)
  by_cases hgo:k<l.length
  ·obtain⟨ab,ao,x,rfl,hab,hx,hc⟩:=hat.at (i:=k) hgo
   have hxb:x<256:=hb x (List.mem_of_getElem? hx)
   have hs:regOf (l.take (k+1))=itS 8 (regOf (l.take k)^^^x*16777216):=by rw[List.take_add_one,hx,←regOf_snoc];rfl
   have HS:=qh hs
   obtain⟨n,hnn⟩:∃n,regOf (l.take k)=n:=⟨_,rfl⟩
   rw[hnn]at hn HS ⊢
   have h1:(k:Int)<(l.length:Int):=by omega
   have h0:(0:Int)≤(k:Int):=by omega
   have he:(x:Int)*16777216=((x*16777216:Nat):Int):=by omega
   have hxx:bits .xor .u32 (n:Int) ((x:Int)*16777216)=((n^^^x*16777216:Nat):Int):=by rw[he];exact bits_xor32 _ _ hn (by omega)
   have hlt:=xor32_lt hn (show x*16777216<4294967296 by omega)
   obtain⟨y,hy⟩:∃y,n^^^x*16777216=y:=⟨_,rfl⟩
   rw[hy]at hxx hlt HS
   clear hs hnn hx he hy
   go_wp2_with fail
   refine(cr_byteStep y hlt w).mono ?_
   rintro e w' ⟨rfl,rfl⟩
   go_wp2_with fail
   go_round
   case rel=>exact⟨k+1,by omega,by go_num,by rw[HS.out]⟩
   case measure=>simp[intOf];omega
  ·have e:k=l.length:=by omega
   subst e
   rw[List.take_length]at hn ⊢
   have HF:=qh (bits_xor32 4294967295 (regOf l) (by decide) hn)
   go_wp2_with fail
   go_ret
   refine⟨ret_int ?_,rfl⟩
   show bits .xor .u32 4294967295 (regOf l:Nat)=_
   refine HF.out.trans ?_
   unfold crcOf
   rw[Nat.xor_comm]
theorem cr_of(a:Option Addr)(n c:Nat)(l:List Nat)(hn:n=l.length)(hb:Bts l)(w:World)(hat:NatsAt w .u8 a l)(hl:n≤1000000):
 Calls Tryz.prog 128 #[.slice a n c] w fun e w'=>e=.returned (.int .u32 (crcOf l:Nat))∧w'=w:=by
 have U:=qh (cr_update a n c l hn hb w hat hl)
 clear hn
 go_enter Tryz.func128,Tryz.ntmps128
 go_wp2_with fail
 refine U.out.mono ?_
 rintro e w' ⟨rfl,rfl⟩
 go_wp2_with fail
 go_ret
 exact⟨rfl,rfl⟩
theorem cr_ref_of(a:Option Addr)(n c:Nat)(l:List Nat)(hn:n=l.length)(hb:Bts l)(w:World)(hat:NatsAt w .u8 a l)(hl:n≤1000000):
 Calls Tryz.prog 164 #[.slice a n c] w fun e w'=>e=.returned (.int .u32 (crcOf l:Nat))∧w'=w:=by
 subst hn
 go_enter Tryz.func164,Tryz.ntmps164
 go_wp2_with fail
 go_loop [3,4] (fun x t=>∃k:Nat,k≤l.length∧t=.int .i64 k∧x=.int .u32 (regOf (l.take k):Nat)) (fun _ t=>l.length - (intOf t).toNat)
 case atStart=>exact⟨0,by omega,rfl,rfl⟩
 case round=>
  obtain⟨k,hk,rfl,rfl⟩:=hrel
  have hn:=regOf_lt (l.take k) (hb.take k)
  by_cases hgo:k<l.length
  ·obtain⟨ab,ao,x,rfl,hab,hx,hc⟩:=hat.at (i:=k) hgo
   have hxb:x<256:=hb x (List.mem_of_getElem? hx)
   have hs:regOf (l.take (k+1))=itS 8 (regOf (l.take k)^^^x*16777216):=by rw[List.take_add_one,hx,←regOf_snoc];rfl
   have HS:=qh hs
   obtain⟨n,hnn⟩:∃n,regOf (l.take k)=n:=⟨_,rfl⟩
   rw[hnn]at hn HS ⊢
   have h1:(k:Int)<(l.length:Int):=by omega
   have h0:(0:Int)≤(k:Int):=by omega
   have he:(x:Int)*16777216=((x*16777216:Nat):Int):=by omega
   have hxx:bits .xor .u32 (n:Int) ((x:Int)*16777216)=((n^^^x*16777216:Nat):Int):=by rw[he];exact bits_xor32 _ _ hn (by omega)
   have hlt:=xor32_lt hn (show x*16777216<4294967296 by omega)
   obtain⟨y,hy⟩:∃y,n^^^x*16777216=y:=⟨_,rfl⟩
   rw[hy]at hxx hlt HS
   clear hs hnn hx he hy
   go_wp2_with fail
   go_loop [3,5] (fun x t=>∃j:Nat,j≤8∧t=.int .i64 j∧x=.int .u32 (itS j y:Nat)) (fun _ t=>8 - (intOf t).toNat)
   case atStart=>exact⟨0,by omega,rfl,rfl⟩
   case round=>
    obtain⟨j,hj,rfl,rfl⟩:=hrel
    have hz:=itS_lt hlt j
    have hs:itS (j+1) y=step1 (itS j y):=rfl
    have HJ:=qh hs
    obtain⟨z,hzz⟩:∃z,itS j y=z:=⟨_,rfl⟩
    rw[hzz]at hz HJ ⊢
    have HZ:=qh hzz
    clear hs hzz
    by_cases hgo2:j<8
    ·have g1:(j:Int)<8:=by omega
     have g0:(0:Int)≤(j:Int):=by omega
     go_wp2_with fail
     refine(cr_step z hz w).mono ?_
     rintro e w' ⟨rfl,rfl⟩
     go_wp2_with fail
     go_round
     case rel=>exact⟨j+1,by omega,by go_num,by rw[HJ.out]⟩
     case measure=>simp[intOf];omega
    ·have e:j=8:=by omega
     subst e
     go_wp2_with fail
     go_round
     case rel=>exact⟨k+1,by omega,by go_num,by rw[HS.out,HZ.out]⟩
     case measure=>simp[intOf];omega
  ·have e:k=l.length:=by omega
   subst e
   rw[List.take_length]at hn ⊢
   have HF:=qh (bits_xor32 (regOf l) 4294967295 hn (by decide))
   go_wp2_with fail
   go_ret
   exact⟨ret_int HF.out,rfl⟩
end
section
open Go.RowKit
def inner(b:List Nat):List Nat:=[b.length / 256,b.length % 256,0,0]++b++List.replicate (1016 - b.length) 0
def sealC(b:List Nat):List Nat:=fourOf (crcOf (inner b))++inner b
theorem inner_len{b:List Nat}(h:b.length≤1016):(inner b).length=1020:=by simp[inner];omega
theorem sealC_len{b:List Nat}(h:b.length≤1016):(sealC b).length=1024:=by simp[sealC,fourOf,inner_len h]
theorem inner_bts{b:List Nat}(h:b.length≤1016)(hb:Bts b):Bts (inner b):=by
 unfold inner
 refine Bts.app (Bts.app ?_ hb) ?_
 ·intro x hx
  simp at hx
  omega
 ·intro x hx
  rw[List.eq_of_mem_replicate hx];decide
theorem fourOf_bts{r:Nat}(h:r<4294967296):Bts (fourOf r):=by
 intro x hx
 simp[fourOf]at hx
 omega
theorem sealC_bts{b:List Nat}(h:b.length≤1016)(hb:Bts b):Bts (sealC b):=
 (fourOf_bts (crcOf_lt _ (inner_bts h hb))).app (inner_bts h hb)
def sealP(b:List Nat):List Nat×Nat:=if b.length≤1016 then(sealC b,0)else([],5)
theorem seal_steps(x y n:Nat):((List.replicate (8+n) 0).set 4 x).set 5 y=[0,0,0,0,x,y,0,0]++List.replicate n 0:=by
 rw[←List.replicate_append_replicate]
 rfl
theorem seal_copy(b:List Nat)(x y n:Nat):
 ([0,0,0,0,x,y,0,0]++List.replicate n 0).take 8++b++([0,0,0,0,x,y,0,0]++List.replicate n 0).drop (8+b.length)=[0,0,0,0]++([x,y,0,0]++b++List.replicate (n - b.length) 0):=by
 rw[List.take_append_of_le_length (by simp),List.drop_append]
 simp[List.drop_replicate]
theorem seal_four(f l:List Nat)(hf:f.length=4):([0,0,0,0]++l).take 0++f++([0,0,0,0]++l).drop (0+f.length)=f++l:=by
 rw[hf];simp
section
attribute [local go_sem ↓] exec_cpy semAt_cpy
attribute [local go_sem] isCpy_lit appA appX
theorem cr_seal(a:Option Addr)(n c:Nat)(b:List Nat)(hn:n=b.length)(hb:Bts b)(hnil:n≤c)(w:World)(hat:NatsAt w .u8 a b):
 Calls Tryz.prog 82 #[.slice a n c,.int .i64 1024] w fun e w'=>∃a' c',e=.returned (.tuple #[.slice a' (sealP b).1.length c',.int .i64 ((sealP b).2:Nat)])∧NatsAt w' .u8 a' (sealP b).1∧(sealP b).1.length≤c'∧(∀x,a'=some x→w.heap.size≤x.block)∧Same w w':=by
 subst hn
 by_cases hbig:b.length≤1016
 ·have hbi:¬(1016:Int)<(b.length:Int):=by omega
  have e1:sealP b=(sealC b,0):=if_pos hbig
  rw[e1]
  have HE:=qh (sealC_len hbig)
  obtain⟨i0,hi,hz0,hz1,hz2⟩:=info_parts (show(Tryz.prog.info? 5).map (fun i=>(i.zero,i.size,i.bytes))=some (some (.int .u8 0),1,1) by kernel_rfl)
  obtain⟨w1,hrun,hown,hgr⟩:=run_make_full (P:=Tryz.prog) w w.heap.size 32 5 i0 (.int .u8 0) 1 Tryz.underlying32 hi hz0 hz1 .i64 .i64 1024 (by rw[hz2];decide) (by decide) (Nat.le_refl _)
  have ho:=OwnN.made hown
  have hmk:(Instr.makeSlice 32 (.int .i64 1024) (.int .i64 1024)).run Tryz.prog w=.ok (.slice (some ⟨w.heap.size,0,none⟩) 1024 1024) w1:=hrun
  have K1:Same w w1:=⟨hgr.os,hgr.tape,hgr.output,hgr.size,fun k hk _=>hgr.block k hk (by simp)⟩
  have c4:=ho.cell (j:=4) (x:=0) List.length_replicate (by rw[List.getElem?_replicate];simp)
  have c5:=ho.cell (j:=5) (x:=0) List.length_replicate (by rw[List.getElem?_replicate];simp)
  have f4:=fun i=>ho.free List.length_replicate i
  have e4:(b.length:Int) / 256=((b.length / 256:Nat):Int):=by omega
  have e5:(b.length:Int) % 256=((b.length % 256:Nat):Int):=by omega
  have o5:OwnN ((w1.setCell ⟨w.heap.size,4,none⟩ (.int .u8 ((b.length:Int) / 256))).setCell ⟨w.heap.size,5,none⟩ (.int .u8 ((b.length:Int) % 256))) w.heap.size 5 .u8 (.slice (some ⟨w.heap.size,0,none⟩) 1024 1024) ([0,0,0,0,b.length / 256,b.length % 256,0,0]++List.replicate 1016 0):=by
   rw[e4,e5,←seal_steps]
   exact(ho.set List.length_replicate 4 _).set (by rw[List.length_set];exact List.length_replicate) 5 _
  have k5:Kept (fun j=>j=w.heap.size) w1 ((w1.setCell ⟨w.heap.size,4,none⟩ (.int .u8 ((b.length:Int) / 256))).setCell ⟨w.heap.size,5,none⟩ (.int .u8 ((b.length:Int) % 256))):=((Kept.refl _ _).setG _ _).setG _ _
  have K5:Same w ((w1.setCell ⟨w.heap.size,4,none⟩ (.int .u8 ((b.length:Int) / 256))).setCell ⟨w.heap.size,5,none⟩ (.int .u8 ((b.length:Int) % 256))):=K1.step k5 (fun i hi q=>by omega)
  obtain⟨w3,hcp,o3,k3⟩:=run_copyN (P:=Tryz.prog) _ 32 32 3 5 .u8 Tryz.underlying32 (by kernel_rfl) w.heap.size w.heap.size 8 1024 1024 1016 1016 _ o5 (by simp) a b.length c b rfl (hat.same K5) (by omega) hbig
  rw[seal_copy]at o3
  obtain⟨aok,aV,aW⟩:=cpy_of hcp
  have K3:=qh (K5.step k3 (fun i hi q=>by omega))
  have hI:[b.length / 256,b.length % 256,0,0]++b++List.replicate (1016 - b.length) 0=inner b:=rfl
  rw[hI]at o3
  have O3:=qh o3
  have N3:=qh (show NatsAt w3 .u8 (some ⟨w.heap.size,4,none⟩) (inner b)from by have:=o3.nats.drop 4;rw[Nat.zero_add]at this;exact this)
  have IL:=qh (inner_len hbig)
  have IB:=qh (inner_bts hbig hb)
  have hgl:=(ho.lt).2
  have hlb:(b.length:Int)<65536:=by omega
  clear hi hz0 hz1 hz2 hgr hown ho hrun hcp o3 k3 o5 k5 K5 K1 e4 e5 hI
  obtain⟨I,hI⟩:∃I,inner b=I:=⟨_,rfl⟩
  have HSE:Hid (sealC b=fourOf (crcOf I)++I):=by show sealC b=_;unfold sealC;rw[hI]
  rw[hI]at O3 N3 IL IB
  clear hI
  go_enter Tryz.func82,Tryz.ntmps82
  go_wp2_with fail
  refine(cr_of _ 1020 _ I IL.out.symm IB.out w3 N3.out (by omega)).mono ?_
  rintro e w' ⟨rfl,rfl⟩
  go_wp2_with fail
  refine(cr_four (crcOf I) (crcOf_lt I IB.out) _).mono ?_
  rintro e w4 ⟨g4,rfl,n4,hg4,k4⟩
  obtain⟨w6,hcp,o6,k6⟩:=run_copyN (P:=Tryz.prog) w4 32 32 3 5 .u8 Tryz.underlying32 (by kernel_rfl) w.heap.size w.heap.size 0 1024 1024 1024 1024 _ (O3.out.same k4) (by rw[List.length_append,IL.out];rfl) (some ⟨g4,0,none⟩) 4 4 (fourOf (crcOf I)) rfl n4 (by simp[fourOf]) (by simp[fourOf])
  rw[seal_four _ _ rfl]at o6
  obtain⟨aok2,aV2,aW2⟩:=cpy_of hcp
  have K6:=qh ((K3.out.trans k4).step k6 (fun i hi q=>by omega))
  have O6:=qh o6
  clear hcp o6 k6 k4 n4 K3 O3 N3 aok aV aW
  go_wp2_with fail
  go_ret2
  refine⟨some ⟨w.heap.size,0,none⟩,1024,?_,?_,?_,(fun x hx=>by cases hx;exact Nat.le_refl _),K6.out⟩
  ·rw[HE.out];rfl
  ·show NatsAt w6 .u8 _ (sealC b)
   rw[HSE.out];exact O6.out.nats
  ·show(sealC b).length≤1024
   rw[HE.out];omega
 ·have hbi:(1016:Int)<(b.length:Int):=by omega
  have e1:sealP b=([],5):=if_neg hbig
  rw[e1]
  go_enter Tryz.func82,Tryz.ntmps82
  go_wp2_with fail
  go_ret2
  exact⟨none,0,rfl,.inl rfl,Nat.le_refl _,(fun x hx=>by cases hx),Kept.refl _ _⟩
end
end
section
open Go.RowKit Go.Sort
theorem bits_or64(x y:Nat)(hx:x<256)(hy:y<256):bits .or .i64 ((x:Int)*256) (y:Int)=((256*x+y:Nat):Int):=by
 have e:(x:Int)*256=((256*x:Nat):Int):=by omega
 have hor:256*x|||y=256*x+y:=by
  have:=Nat.two_pow_add_eq_or_of_lt (i:=8) (b:=y) (by omega) x
  rw[show(2^8:Nat)=256 from rfl]at this
  exact this.symm
 have h1:(BitVec.ofInt 64 ((256*x:Nat):Int)).toNat=256*x:=by
  rw[BitVec.ofInt_natCast,BitVec.toNat_ofNat];exact Nat.mod_eq_of_lt (by omega)
 have h2:(BitVec.ofInt 64 (y:Int)).toNat=y:=by
  rw[BitVec.ofInt_natCast,BitVec.toNat_ofNat];exact Nat.mod_eq_of_lt (by omega)
 rw[e]
 show IntKind.i64.wrap ((BitVec.ofInt 64 ((256*x:Nat):Int)|||BitVec.ofInt 64 (y:Int)).toNat:Int)=_
 rw[BitVec.toNat_or,h1,h2,hor]
 exact IntWalk.i64_in _ (by omega)
def formOK(b:List Nat):Prop:=b.getD 6 0=0∧b.getD 7 0=0∧∀x∈b.drop (8+(256*b.getD 4 0+b.getD 5 0)),x=0
instance (b:List Nat):Decidable (formOK b):=inferInstanceAs (Decidable (_∧_∧_))
def openP(b:List Nat):List Nat×Nat:=
 if b.take 4=fourOf (crcOf (b.drop 4))then
  (if 256*b.getD 4 0+b.getD 5 0≤1016 then(if formOK b then((b.drop 8).take (256*b.getD 4 0+b.getD 5 0),0)else([],4))else([],4))
 else([],10)
def Told(w w':World)(e:Ending)(r:List Nat×Nat):Prop:=∃a c,e=.returned (.tuple #[.slice a r.1.length c,.int .i64 (r.2:Nat)])∧NatsAt w' .u8 a r.1∧(a=none→r.1=[])∧Same w w'
theorem or_zero{x y:Nat}(h:x|||y=0):x=0∧y=0:=by
 have h1:x≤x|||y:=Nat.left_le_or
 have h2:y≤x|||y:=Nat.right_le_or
 omega
theorem open_big(g o:Nat)(b:List Nat)(w:World)(HL:Hid (b.length=1024))(AT:Hid (NatsAt w .u8 (some ⟨g,o,none⟩) b))(s x4 x5 x6 x7 n y:Nat)
 (AC:Hid (∀w',Same w w'→w'.cell? ⟨g,o+4,none⟩=some (.int .u8 (x4:Nat))∧w'.cell? ⟨g,o+5,none⟩=some (.int .u8 (x5:Nat))∧w'.cell? ⟨g,o+6,none⟩=some (.int .u8 (x6:Nat))∧w'.cell? ⟨g,o+7,none⟩=some (.int .u8 (x7:Nat))))
 (b4:x4<256) (b5:x5<256) (hor:bits .or .i64 ((x4:Int)*256) (x5:Int)=(n:Int)) (hor8:bits .or .u8 (x6:Int) (x7:Int)=(y:Int))
 (SU:Hid (∀w',Same w w'→Calls Tryz.prog 128 #[.slice (some ⟨g,o+4,none⟩) 1020 1020] w' fun e w''=>e=.returned (.int .u32 (s:Nat))∧w''=w'))
 (EQ:Hid (∀w',Same w w'→∀a',NatsAt w' .u8 a' (fourOf s)→Calls Tryz.prog 89 #[.slice (some ⟨g,o,none⟩) 4 1024,.slice a' 4 4] w' fun e w''=>e=.returned (.bool true)∧w''=w'))
 (FO:Hid (∀w',Calls Tryz.prog 127 #[.int .u32 (s:Nat)] w' fun e w''=>∃g,e=.returned (.slice (some ⟨g,0,none⟩) 4 4)∧NatsAt w'' .u8 (some ⟨g,0,none⟩) (fourOf s)∧w'.heap.size≤g∧Same w' w''))
 (h16:1016<n):
 Calls Tryz.prog 117 #[.slice (some ⟨g,o,none⟩) 1024 1024,.int .i64 1024] w fun e w'=>Told w w' e ([],4):=by
 have _u:True:=(fun _ _ _=>trivial) HL AT hor8
 clear _u
 have KN:=qh (Kept.refl (fun _=>False) w)
 have g16:(1016:Int)<(n:Int):=by omega
 have gd:decide ((1016:Int)<(n:Int))=true:=decide_eq_true g16
 go_enter Tryz.func117,Tryz.ntmps117
 go_wp2_with fail
 go_region_held3 (fun _=>True) (exact trivial)
  (first
   |(go_at_call 128;refine(SU.out _ (by first|exact KN.out|exact KN.out.drew)).mono ?_;rintro e w' ⟨rfl,rfl⟩)
   |(go_at_call 127;refine(FO.out _).mono ?_;rintro e w4 ⟨g4,rfl,n4, -,k4⟩;have N4:=qh n4;have KN':=qh (show Same w w4 from Kept.trans (by first|exact KN.out|exact KN.out.drew) k4);clear KN n4 k4;have KN:=KN';clear KN')
   |(go_at_call 89;refine(EQ.out _ (by first|exact KN.out|exact KN.out.drew) _ (by first|exact N4.out|exact N4.out.same (Kept.refl _ _).drew)).mono ?_;rintro e w' ⟨rfl,rfl⟩))
 have ex4:IntKind.i64.wrap (x4:Int)=(x4:Int):=IntWalk.i64_in _ (by omega)
 have ex5:IntKind.i64.wrap (x5:Int)=(x5:Int):=IntWalk.i64_in _ (by omega)
 have ex6:IntKind.i64.wrap ((x4:Int)*256)=(x4:Int)*256:=IntWalk.i64_in _ (by omega)
 have exk:IntKind.i64.wrap 1016=1016:=by decide
 have D4:=fun dq os=>(AC.out _ (KN.out.trans (Kept.of_below (below_regrown _ dq os)))).1
 have D5:=fun dq os=>(AC.out _ (KN.out.trans (Kept.of_below (below_regrown _ dq os)))).2.1
 clear SU EQ FO N4
 go_wp2_with fail
 refine wp_region_quiet_below (by kernel_rfl) (by kernel_rfl) ?_
 repeat(quiet_step (fail))
 refine wpQuiet_nil ?_
 intro _ hw'
 obtain⟨⟨dq,osq⟩,hw''⟩:=hw'
 subst hw''
 have kq:=qh (show Same w' _ from Kept.of_below (below_regrown w' dq osq))
 have K8:=qh (KN.out.trans kq.out)
 clear kq KN D4 D5
 generalize hW8:grow (redrawn w' dq) osq=w8 at*
 clear hW8
 have D6:=fun dq os=>(AC.out _ (K8.out.trans (Kept.of_below (below_regrown _ dq os)))).2.2.1
 have D7:=fun dq os=>(AC.out _ (K8.out.trans (Kept.of_below (below_regrown _ dq os)))).2.2.2
 go_wp2_with fail
 go_region
 go_wp2_with fail
 go_ret2
 exact⟨none,0,rfl,.inl rfl,fun _=>rfl,by repeat(with_reducible first|exact K8.out.trans kq.out|exact K8.out|refine Kept.drew ?_)⟩
theorem open_bad(g o:Nat)(b:List Nat)(w:World)(HL:Hid (b.length=1024))(AT:Hid (NatsAt w .u8 (some ⟨g,o,none⟩) b))(s x4 x5 x6 x7 n y:Nat)
 (AC:Hid (∀w',Same w w'→w'.cell? ⟨g,o+4,none⟩=some (.int .u8 (x4:Nat))∧w'.cell? ⟨g,o+5,none⟩=some (.int .u8 (x5:Nat))∧w'.cell? ⟨g,o+6,none⟩=some (.int .u8 (x6:Nat))∧w'.cell? ⟨g,o+7,none⟩=some (.int .u8 (x7:Nat))))
 (b4:x4<256) (b5:x5<256) (hor:bits .or .i64 ((x4:Int)*256) (x5:Int)=(n:Int)) (hor8:bits .or .u8 (x6:Int) (x7:Int)=(y:Int))
 (SU:Hid (∀w',Same w w'→Calls Tryz.prog 128 #[.slice (some ⟨g,o+4,none⟩) 1020 1020] w' fun e w''=>e=.returned (.int .u32 (s:Nat))∧w''=w'))
 (EQ:Hid (∀w',Same w w'→∀a',NatsAt w' .u8 a' (fourOf s)→Calls Tryz.prog 89 #[.slice (some ⟨g,o,none⟩) 4 1024,.slice a' 4 4] w' fun e w''=>e=.returned (.bool true)∧w''=w'))
 (FO:Hid (∀w',Calls Tryz.prog 127 #[.int .u32 (s:Nat)] w' fun e w''=>∃g,e=.returned (.slice (some ⟨g,0,none⟩) 4 4)∧NatsAt w'' .u8 (some ⟨g,0,none⟩) (fourOf s)∧w'.heap.size≤g∧Same w' w''))
 (h16:n≤1016) (hy0:y≠0):
 Calls Tryz.prog 117 #[.slice (some ⟨g,o,none⟩) 1024 1024,.int .i64 1024] w fun e w'=>Told w w' e ([],4):=by
 have _u:True:=(fun _ _=>trivial) HL AT
 clear _u
 have KN:=qh (Kept.refl (fun _=>False) w)
 have g17:¬(1016:Int)<(n:Int):=by omega
 have gd:decide ((1016:Int)<(n:Int))=false:=decide_eq_false g17
 have gy0:¬(y:Int)=0:=by omega
 have gy1:((y:Int) !=0)=true:=by simpa using gy0
 go_enter Tryz.func117,Tryz.ntmps117
 go_wp2_with fail
 go_region_held3 (fun _=>True) (exact trivial)
  (first
   |(go_at_call 128;refine(SU.out _ (by first|exact KN.out|exact KN.out.drew)).mono ?_;rintro e w' ⟨rfl,rfl⟩)
   |(go_at_call 127;refine(FO.out _).mono ?_;rintro e w4 ⟨g4,rfl,n4, -,k4⟩;have N4:=qh n4;have KN':=qh (show Same w w4 from Kept.trans (by first|exact KN.out|exact KN.out.drew) k4);clear KN n4 k4;have KN:=KN';clear KN')
   |(go_at_call 89;refine(EQ.out _ (by first|exact KN.out|exact KN.out.drew) _ (by first|exact N4.out|exact N4.out.same (Kept.refl _ _).drew)).mono ?_;rintro e w' ⟨rfl,rfl⟩))
 have ex4:IntKind.i64.wrap (x4:Int)=(x4:Int):=IntWalk.i64_in _ (by omega)
 have ex5:IntKind.i64.wrap (x5:Int)=(x5:Int):=IntWalk.i64_in _ (by omega)
 have ex6:IntKind.i64.wrap ((x4:Int)*256)=(x4:Int)*256:=IntWalk.i64_in _ (by omega)
 have exk:IntKind.i64.wrap 1016=1016:=by decide
 have D4:=fun dq os=>(AC.out _ (KN.out.trans (Kept.of_below (below_regrown _ dq os)))).1
 have D5:=fun dq os=>(AC.out _ (KN.out.trans (Kept.of_below (below_regrown _ dq os)))).2.1
 clear SU EQ FO N4
 go_wp2_with fail
 refine wp_region_quiet_below (by kernel_rfl) (by kernel_rfl) ?_
 repeat(quiet_step (fail))
 refine wpQuiet_nil ?_
 intro _ hw'
 obtain⟨⟨dq,osq⟩,hw''⟩:=hw'
 subst hw''
 have kq:=qh (show Same w' _ from Kept.of_below (below_regrown w' dq osq))
 have K8:=qh (KN.out.trans kq.out)
 clear kq KN D4 D5
 generalize hW8:grow (redrawn w' dq) osq=w8 at*
 clear hW8
 have D6:=fun dq os=>(AC.out _ (K8.out.trans (Kept.of_below (below_regrown _ dq os)))).2.2.1
 have D7:=fun dq os=>(AC.out _ (K8.out.trans (Kept.of_below (below_regrown _ dq os)))).2.2.2
 go_wp2_with fail
 refine wp_region_quiet_below (by kernel_rfl) (by kernel_rfl) ?_
 repeat(quiet_step (fail))
 refine wpQuiet_nil ?_
 intro _ hw'
 obtain⟨⟨dq,osq⟩,hw''⟩:=hw'
 subst hw''
 have kq:=qh (show Same w8 _ from Kept.of_below (below_regrown w8 dq osq))
 go_wp2_with fail
 go_ret2
 exact⟨none,0,rfl,.inl rfl,fun _=>rfl,by repeat(with_reducible first|exact K8.out.trans kq.out|exact K8.out|refine Kept.drew ?_)⟩
theorem open_sum(g o:Nat)(b:List Nat)(w:World)(HL:Hid (b.length=1024))(AT:Hid (NatsAt w .u8 (some ⟨g,o,none⟩) b))(s x4 x5 x6 x7 n y:Nat)
 (AC:Hid (∀w',Same w w'→w'.cell? ⟨g,o+4,none⟩=some (.int .u8 (x4:Nat))∧w'.cell? ⟨g,o+5,none⟩=some (.int .u8 (x5:Nat))∧w'.cell? ⟨g,o+6,none⟩=some (.int .u8 (x6:Nat))∧w'.cell? ⟨g,o+7,none⟩=some (.int .u8 (x7:Nat))))
 (b4:x4<256) (b5:x5<256) (hor:bits .or .i64 ((x4:Int)*256) (x5:Int)=(n:Int)) (hor8:bits .or .u8 (x6:Int) (x7:Int)=(y:Int))
 (SU:Hid (∀w',Same w w'→Calls Tryz.prog 128 #[.slice (some ⟨g,o+4,none⟩) 1020 1020] w' fun e w''=>e=.returned (.int .u32 (s:Nat))∧w''=w'))
 (EQ:Hid (∀w',Same w w'→∀a',NatsAt w' .u8 a' (fourOf s)→Calls Tryz.prog 89 #[.slice (some ⟨g,o,none⟩) 4 1024,.slice a' 4 4] w' fun e w''=>e=.returned (.bool false)∧w''=w'))
 (FO:Hid (∀w',Calls Tryz.prog 127 #[.int .u32 (s:Nat)] w' fun e w''=>∃g,e=.returned (.slice (some ⟨g,0,none⟩) 4 4)∧NatsAt w'' .u8 (some ⟨g,0,none⟩) (fourOf s)∧w'.heap.size≤g∧Same w' w''))
  :
 Calls Tryz.prog 117 #[.slice (some ⟨g,o,none⟩) 1024 1024,.int .i64 1024] w fun e w'=>Told w w' e ([],10):=by
 have _u:True:=(fun _ _ _ _ _ _ _=>trivial) HL AT AC b4 b5 hor hor8
 clear _u
 have KN:=qh (Kept.refl (fun _=>False) w)
 clear hor hor8 AT HL AC b4 b5
 go_enter Tryz.func117,Tryz.ntmps117
 go_wp2_with fail
 go_region_held3 (fun _=>True) (exact trivial)
  (first
   |(go_at_call 128;refine(SU.out _ (by first|exact KN.out|exact KN.out.drew)).mono ?_;rintro e w' ⟨rfl,rfl⟩)
   |(go_at_call 127;refine(FO.out _).mono ?_;rintro e w4 ⟨g4,rfl,n4, -,k4⟩;have N4:=qh n4;have KN':=qh (show Same w w4 from Kept.trans (by first|exact KN.out|exact KN.out.drew) k4);clear KN n4 k4;have KN:=KN';clear KN')
   |(go_at_call 89;refine(EQ.out _ (by first|exact KN.out|exact KN.out.drew) _ (by first|exact N4.out|exact N4.out.same (Kept.refl _ _).drew)).mono ?_;rintro e w' ⟨rfl,rfl⟩))
 all_goals
  go_wp2_with fail
  go_ret2
  exact⟨none,0,rfl,.inl rfl,fun _=>rfl,by first|exact KN.out|exact KN.out.drew⟩
theorem open_good(g o:Nat)(b:List Nat)(w:World)(HL:Hid (b.length=1024))(AT:Hid (NatsAt w .u8 (some ⟨g,o,none⟩) b))(s x4 x5 x6 x7 n y:Nat)
 (AC:Hid (∀w',Same w w'→w'.cell? ⟨g,o+4,none⟩=some (.int .u8 (x4:Nat))∧w'.cell? ⟨g,o+5,none⟩=some (.int .u8 (x5:Nat))∧w'.cell? ⟨g,o+6,none⟩=some (.int .u8 (x6:Nat))∧w'.cell? ⟨g,o+7,none⟩=some (.int .u8 (x7:Nat))))
 (b4:x4<256) (b5:x5<256) (hor:bits .or .i64 ((x4:Int)*256) (x5:Int)=(n:Int)) (hor8:bits .or .u8 (x6:Int) (x7:Int)=(y:Int))
 (SU:Hid (∀w',Same w w'→Calls Tryz.prog 128 #[.slice (some ⟨g,o+4,none⟩) 1020 1020] w' fun e w''=>e=.returned (.int .u32 (s:Nat))∧w''=w'))
 (EQ:Hid (∀w',Same w w'→∀a',NatsAt w' .u8 a' (fourOf s)→Calls Tryz.prog 89 #[.slice (some ⟨g,o,none⟩) 4 1024,.slice a' 4 4] w' fun e w''=>e=.returned (.bool true)∧w''=w'))
 (FO:Hid (∀w',Calls Tryz.prog 127 #[.int .u32 (s:Nat)] w' fun e w''=>∃g,e=.returned (.slice (some ⟨g,0,none⟩) 4 4)∧NatsAt w'' .u8 (some ⟨g,0,none⟩) (fourOf s)∧w'.heap.size≤g∧Same w' w''))
 (h16:n<1016) (hy0:y=0) (r:List Nat×Nat) (HR1:Hid ((∀x∈b.drop (8+n),x=0)→r=((b.drop 8).take n,0))) (HR2:Hid ((∃x∈b.drop (8+n),x≠0)→r=([],4))):
 Calls Tryz.prog 117 #[.slice (some ⟨g,o,none⟩) 1024 1024,.int .i64 1024] w fun e w'=>Told w w' e r:=by
 have KN:=qh (Kept.refl (fun _=>False) w)
 subst hy0
 have g17:¬(1016:Int)<(n:Int):=by omega
 have g19:(n:Int)<1016:=by omega
 have gd:decide ((1016:Int)<(n:Int))=false:=decide_eq_false g17
 have CL:Hid (∀w',Same w w'→Calls Tryz.prog 38 #[.slice (some ⟨g,o+8,none⟩) n 1016] w' fun e w''=>∃v,e=.returned v∧OwnN w'' w'.heap.size 5 .u8 v ((b.drop 8).take n)∧Same w' w''):=by
  intro w' k
  have hl:((b.drop 8).take n).length=n:=by rw[List.length_take,List.length_drop,HL.out];omega
  have:=by_clone (some ⟨g,o+8,none⟩) 1016 ((b.drop 8).take n) w' (((AT.out.same k).drop 8).take n) (by rw[hl];omega) (fun h=>by cases h)
  rw[hl]at this
  exact this
 go_enter Tryz.func117,Tryz.ntmps117
 go_wp2_with fail
 go_region_held3 (fun _=>True) (exact trivial)
  (first
   |(go_at_call 128;refine(SU.out _ (by first|exact KN.out|exact KN.out.drew)).mono ?_;rintro e w' ⟨rfl,rfl⟩)
   |(go_at_call 127;refine(FO.out _).mono ?_;rintro e w4 ⟨g4,rfl,n4, -,k4⟩;have N4:=qh n4;have KN':=qh (show Same w w4 from Kept.trans (by first|exact KN.out|exact KN.out.drew) k4);clear KN n4 k4;have KN:=KN';clear KN')
   |(go_at_call 89;refine(EQ.out _ (by first|exact KN.out|exact KN.out.drew) _ (by first|exact N4.out|exact N4.out.same (Kept.refl _ _).drew)).mono ?_;rintro e w' ⟨rfl,rfl⟩))
 have ex4:IntKind.i64.wrap (x4:Int)=(x4:Int):=IntWalk.i64_in _ (by omega)
 have ex5:IntKind.i64.wrap (x5:Int)=(x5:Int):=IntWalk.i64_in _ (by omega)
 have ex6:IntKind.i64.wrap ((x4:Int)*256)=(x4:Int)*256:=IntWalk.i64_in _ (by omega)
 have exk:IntKind.i64.wrap 1016=1016:=by decide
 have D4:=fun dq os=>(AC.out _ (KN.out.trans (Kept.of_below (below_regrown _ dq os)))).1
 have D5:=fun dq os=>(AC.out _ (KN.out.trans (Kept.of_below (below_regrown _ dq os)))).2.1
 clear SU EQ FO N4
 go_wp2_with fail
 refine wp_region_quiet_below (by kernel_rfl) (by kernel_rfl) ?_
 repeat(quiet_step (fail))
 refine wpQuiet_nil ?_
 intro _ hw'
 obtain⟨⟨dq,osq⟩,hw''⟩:=hw'
 subst hw''
 have kq:=qh (show Same w' _ from Kept.of_below (below_regrown w' dq osq))
 have K8:=qh (KN.out.trans kq.out)
 clear kq KN D4 D5
 generalize hW8:grow (redrawn w' dq) osq=w8 at*
 clear hW8
 have D6:=fun dq os=>(AC.out _ (K8.out.trans (Kept.of_below (below_regrown _ dq os)))).2.2.1
 have D7:=fun dq os=>(AC.out _ (K8.out.trans (Kept.of_below (below_regrown _ dq os)))).2.2.2
 go_wp2_with fail
 refine wp_region_quiet_below (by kernel_rfl) (by kernel_rfl) ?_
 repeat(quiet_step (fail))
 refine wpQuiet_nil ?_
 intro _ hw'
 obtain⟨⟨dq,osq⟩,hw''⟩:=hw'
 subst hw''
 have kq:=qh (show Same w8 _ from Kept.of_below (below_regrown w8 dq osq))
 have K9:=qh (K8.out.trans kq.out)
 clear kq K8 D6 D7
 generalize hW9:grow (redrawn w8 dq) osq=w9 at*
 clear hW9
 clear gd g17
 go_wp2_with fail
 go_loop [59] (fun t=>∃i:Nat,t=.int .i64 i∧i≤1016 - n∧∀j,j<i→b.getD (8+n+j) 0=0) (fun t=>1016 - n - (intOf t).toNat)
 case atStart=>exact⟨0,rfl,by omega,fun j hj=>by omega⟩
 case round=>
  obtain⟨i,rfl,hi,hz⟩:=hrel
  have HZ:=qh hz
  clear hz
  by_cases hgo:i<1016 - n
  ·have cx:=nats_get (AT.out.same K9.out) (i:=8+n+i) (by rw[HL.out];omega)
   have hm:b.getD (8+n+i) 0∈b.drop (8+n):=by
    rw[List.getD_eq_getElem?_getD,List.getElem?_eq_getElem (by rw[HL.out];omega)]
    have:b[8+n+i]'(by rw[HL.out];omega)=(b.drop (8+n))[i]'(by rw[List.length_drop,HL.out];omega):=by rw[List.getElem_drop]
    show b[8+n+i]'(by rw[HL.out];omega)∈_
    rw[this]
    exact List.getElem_mem _
   obtain⟨z,hzz⟩:∃z,b.getD (8+n+i) 0=z:=⟨_,rfl⟩
   rw[hzz,show o+(8+n+i)=o+(8+n)+i from by omega]at cx
   rw[hzz]at hm
   have HM:=qh hm
   have HZZ:=qh hzz
   clear hzz hm
   have g1:(i:Int)<1016 - (n:Int):=by omega
   have g0:(0:Int)≤(i:Int):=by omega
   by_cases hz0:z=0
   ·subst hz0
    go_wp2_with fail
    go_round
    case rel=>exact⟨i+1,by go_num,by omega,fun j hj=>by
     by_cases q:j=i
     ·subst q;exact HZZ.out
     ·exact HZ.out j (by omega)⟩
    case measure=>simp[intOf];omega
   ·have gz0:¬(z:Int)=0:=by omega
    have gz1:((z:Int) !=0)=true:=by simpa using gz0
    have hr:r=([],4):=HR2.out ⟨z,HM.out,hz0⟩
    have HRR:=qh hr
    clear hr
    go_wp2_with fail
    go_ret2
    rw[HRR.out]
    exact⟨none,0,rfl,.inl rfl,fun _=>rfl,K9.out⟩
  ·have g1:¬(i:Int)<1016 - (n:Int):=by omega
   have ei:i=1016 - n:=by omega
   have hr:r=((b.drop 8).take n,0):=by
    refine HR1.out (fun x hx=>?_)
    obtain⟨j,hj,rfl⟩:=List.mem_iff_getElem.1 hx
    rw[List.length_drop,HL.out]at hj
    have h1:=HZ.out j (by omega)
    rw[List.getD_eq_getElem?_getD,List.getElem?_eq_getElem (by rw[HL.out];omega)]at h1
    rw[List.getElem_drop]
    exact h1
   have HRR:=qh hr
   have HLN:Hid (((b.drop 8).take n).length=n):=by show _=_;rw[List.length_take,List.length_drop,HL.out];omega
   clear hr ei
   go_wp2_with fail
   refine(CL.out _ K9.out).mono ?_
   rintro e w7 ⟨v,rfl,ho,k7⟩
   obtain⟨a7,l7,cap7,rfl,hl7,hnil7,hat7, -⟩:=ho.rd
   have K7:=qh (K9.out.trans k7)
   have hl:=hl7.out
   rw[HLN.out]at hl
   have HL7:=qh hl
   clear ho k7 hl
   go_wp2_with fail
   go_ret2
   rw[HRR.out]
   exact⟨a7,cap7,by rw[HLN.out,←HL7.out];rfl,hat7.out,fun h=>by have:=HL7.out;subst h;exact(by have h0:=hat7.out;rcases h0 with q|⟨_,_,q,_⟩;exact q;cases q),K7.out⟩
theorem open_full(g o:Nat)(b:List Nat)(w:World)(HL:Hid (b.length=1024))(AT:Hid (NatsAt w .u8 (some ⟨g,o,none⟩) b))(s x4 x5 x6 x7 n y:Nat)
 (AC:Hid (∀w',Same w w'→w'.cell? ⟨g,o+4,none⟩=some (.int .u8 (x4:Nat))∧w'.cell? ⟨g,o+5,none⟩=some (.int .u8 (x5:Nat))∧w'.cell? ⟨g,o+6,none⟩=some (.int .u8 (x6:Nat))∧w'.cell? ⟨g,o+7,none⟩=some (.int .u8 (x7:Nat))))
 (b4:x4<256) (b5:x5<256) (hor:bits .or .i64 ((x4:Int)*256) (x5:Int)=(n:Int)) (hor8:bits .or .u8 (x6:Int) (x7:Int)=(y:Int))
 (SU:Hid (∀w',Same w w'→Calls Tryz.prog 128 #[.slice (some ⟨g,o+4,none⟩) 1020 1020] w' fun e w''=>e=.returned (.int .u32 (s:Nat))∧w''=w'))
 (EQ:Hid (∀w',Same w w'→∀a',NatsAt w' .u8 a' (fourOf s)→Calls Tryz.prog 89 #[.slice (some ⟨g,o,none⟩) 4 1024,.slice a' 4 4] w' fun e w''=>e=.returned (.bool true)∧w''=w'))
 (FO:Hid (∀w',Calls Tryz.prog 127 #[.int .u32 (s:Nat)] w' fun e w''=>∃g,e=.returned (.slice (some ⟨g,0,none⟩) 4 4)∧NatsAt w'' .u8 (some ⟨g,0,none⟩) (fourOf s)∧w'.heap.size≤g∧Same w' w''))
 (h16:n=1016) (hy0:y=0) (r:List Nat×Nat) (HR1:Hid ((∀x∈b.drop (8+n),x=0)→r=((b.drop 8).take n,0))):
 Calls Tryz.prog 117 #[.slice (some ⟨g,o,none⟩) 1024 1024,.int .i64 1024] w fun e w'=>Told w w' e r:=by
 have KN:=qh (Kept.refl (fun _=>False) w)
 subst hy0
 have g17:¬(1016:Int)<(n:Int):=by omega
 have gd:decide ((1016:Int)<(n:Int))=false:=decide_eq_false g17
 have CL:Hid (∀w',Same w w'→Calls Tryz.prog 38 #[.slice (some ⟨g,o+8,none⟩) n 1016] w' fun e w''=>∃v,e=.returned v∧OwnN w'' w'.heap.size 5 .u8 v ((b.drop 8).take n)∧Same w' w''):=by
  intro w' k
  have hl:((b.drop 8).take n).length=n:=by rw[List.length_take,List.length_drop,HL.out];omega
  have:=by_clone (some ⟨g,o+8,none⟩) 1016 ((b.drop 8).take n) w' (((AT.out.same k).drop 8).take n) (by rw[hl];omega) (fun h=>by cases h)
  rw[hl]at this
  exact this
 go_enter Tryz.func117,Tryz.ntmps117
 go_wp2_with fail
 go_region_held3 (fun _=>True) (exact trivial)
  (first
   |(go_at_call 128;refine(SU.out _ (by first|exact KN.out|exact KN.out.drew)).mono ?_;rintro e w' ⟨rfl,rfl⟩)
   |(go_at_call 127;refine(FO.out _).mono ?_;rintro e w4 ⟨g4,rfl,n4, -,k4⟩;have N4:=qh n4;have KN':=qh (show Same w w4 from Kept.trans (by first|exact KN.out|exact KN.out.drew) k4);clear KN n4 k4;have KN:=KN';clear KN')
   |(go_at_call 89;refine(EQ.out _ (by first|exact KN.out|exact KN.out.drew) _ (by first|exact N4.out|exact N4.out.same (Kept.refl _ _).drew)).mono ?_;rintro e w' ⟨rfl,rfl⟩))
 have ex4:IntKind.i64.wrap (x4:Int)=(x4:Int):=IntWalk.i64_in _ (by omega)
 have ex5:IntKind.i64.wrap (x5:Int)=(x5:Int):=IntWalk.i64_in _ (by omega)
 have ex6:IntKind.i64.wrap ((x4:Int)*256)=(x4:Int)*256:=IntWalk.i64_in _ (by omega)
 have exk:IntKind.i64.wrap 1016=1016:=by decide
 have D4:=fun dq os=>(AC.out _ (KN.out.trans (Kept.of_below (below_regrown _ dq os)))).1
 have D5:=fun dq os=>(AC.out _ (KN.out.trans (Kept.of_below (below_regrown _ dq os)))).2.1
 clear SU EQ FO N4
 go_wp2_with fail
 refine wp_region_quiet_below (by kernel_rfl) (by kernel_rfl) ?_
 repeat(quiet_step (fail))
 refine wpQuiet_nil ?_
 intro _ hw'
 obtain⟨⟨dq,osq⟩,hw''⟩:=hw'
 subst hw''
 have kq:=qh (show Same w' _ from Kept.of_below (below_regrown w' dq osq))
 have K8:=qh (KN.out.trans kq.out)
 clear kq KN D4 D5
 generalize hW8:grow (redrawn w' dq) osq=w8 at*
 clear hW8
 have D6:=fun dq os=>(AC.out _ (K8.out.trans (Kept.of_below (below_regrown _ dq os)))).2.2.1
 have D7:=fun dq os=>(AC.out _ (K8.out.trans (Kept.of_below (below_regrown _ dq os)))).2.2.2
 go_wp2_with fail
 refine wp_region_quiet_below (by kernel_rfl) (by kernel_rfl) ?_
 repeat(quiet_step (fail))
 refine wpQuiet_nil ?_
 intro _ hw'
 obtain⟨⟨dq,osq⟩,hw''⟩:=hw'
 subst hw''
 have kq:=qh (show Same w8 _ from Kept.of_below (below_regrown w8 dq osq))
 have K9:=qh (K8.out.trans kq.out)
 clear kq K8 D6 D7
 generalize hW9:grow (redrawn w8 dq) osq=w9 at*
 clear hW9
 clear gd g17
 subst h16
 go_wp2_with fail
 have g1016:((1016:Nat):Int)=1016:=rfl
 go_loop [59] (fun t=>t=.int .i64 0) (fun _=>0)
 case atStart=>rfl
 case round=>
  obtain rfl:=hrel
  have hr:r=((b.drop 8).take 1016,0):=HR1.out (by intro x hx;rw[List.drop_eq_nil_of_le (by rw[HL.out];omega)]at hx;cases hx)
  have HRR:=qh hr
  have HLN:Hid (((b.drop 8).take 1016).length=1016):=by show _=_;rw[List.length_take,List.length_drop,HL.out];rfl
  clear hr
  go_wp2_with fail
  refine(CL.out _ K9.out).mono ?_
  rintro e w7 ⟨v,rfl,ho,k7⟩
  obtain⟨a7,l7,cap7,rfl,hl7,hnil7,hat7, -⟩:=ho.rd
  have K7:=qh (K9.out.trans k7)
  have hl:=hl7.out
  rw[HLN.out]at hl
  have HL7:=qh hl
  clear ho k7 hl
  go_wp2_with fail
  go_ret2
  rw[HRR.out]
  exact⟨a7,cap7,by rw[HLN.out,←HL7.out];rfl,hat7.out,fun h=>by have:=HL7.out;subst h;exact(by have h0:=hat7.out;rcases h0 with q|⟨_,_,q,_⟩;exact q;cases q),K7.out⟩
theorem cr_open(g o:Nat)(b:List Nat)(hl:b.length=1024)(hb:Bts b)(w:World)(hat:NatsAt w .u8 (some ⟨g,o,none⟩) b):
 Calls Tryz.prog 117 #[.slice (some ⟨g,o,none⟩) 1024 1024,.int .i64 1024] w fun e w'=>Told w w' e (openP b):=by
 have HL:=qh hl;have HB:=qh hb;have AT:=qh hat
 have SU:=qh fun w' (k:Same w w')=>cr_of (some ⟨g,o+4,none⟩) 1020 1020 (b.drop 4) (by rw[List.length_drop,hl]) (hb.drop 4) w' ((hat.drop 4).same k) (by omega)
 have hS:=crcOf_lt (b.drop 4) (hb.drop 4)
 obtain⟨s,hs⟩:∃s,crcOf (b.drop 4)=s:=⟨_,rfl⟩
 rw[hs]at SU hS
 have EQ:=qh fun w' (k:Same w w') a' (n':NatsAt w' .u8 a' (fourOf s))=>by_equal (some ⟨g,o,none⟩) a' 4 4 1024 4 (b.take 4) (fourOf s) w' (by rw[List.length_take,hl];rfl) rfl (hb.take 4) (fourOf_bts hS) ((hat.take 4).same k) n'
 have FO:=qh fun w'=>cr_four s hS w'
 have hop:openP b=if b.take 4=fourOf s then(if 256*b.getD 4 0+b.getD 5 0≤1016 then(if formOK b then((b.drop 8).take (256*b.getD 4 0+b.getD 5 0),0)else([],4))else([],4))else([],10):=by unfold openP;rw[hs]
 have AC:Hid (∀w',Same w w'→w'.cell? ⟨g,o+4,none⟩=some (.int .u8 (b.getD 4 0:Nat))∧w'.cell? ⟨g,o+5,none⟩=some (.int .u8 (b.getD 5 0:Nat))∧w'.cell? ⟨g,o+6,none⟩=some (.int .u8 (b.getD 6 0:Nat))∧w'.cell? ⟨g,o+7,none⟩=some (.int .u8 (b.getD 7 0:Nat))):=
  fun w' k=>⟨nats_get (hat.same k) (by omega),nats_get (hat.same k) (by omega),nats_get (hat.same k) (by omega),nats_get (hat.same k) (by omega)⟩
 have b4:=getD_bts HB.out 4
 have b5:=getD_bts HB.out 5
 have b6:=getD_bts HB.out 6
 have b7:=getD_bts HB.out 7
 have hF:formOK b↔b.getD 6 0=0∧b.getD 7 0=0∧∀x∈b.drop (8+(256*b.getD 4 0+b.getD 5 0)),x=0:=Iff.rfl
 obtain⟨x4,h4⟩:∃x,b.getD 4 0=x:=⟨_,rfl⟩
 obtain⟨x5,h5⟩:∃x,b.getD 5 0=x:=⟨_,rfl⟩
 obtain⟨x6,h6⟩:∃x,b.getD 6 0=x:=⟨_,rfl⟩
 obtain⟨x7,h7⟩:∃x,b.getD 7 0=x:=⟨_,rfl⟩
 rw[h4,h5]at hop
 rw[h4,h5,h6,h7]at hF
 rw[h4]at b4 AC
 rw[h5]at b5 AC
 rw[h6]at b6 AC
 rw[h7]at b7 AC
 have hor:=bits_or64 x4 x5 b4 b5
 have hor8:=bits_or8 x6 x7 b6 b7
 have hy8:= @or_zero x6 x7
 have hn16:256*x4+x5<65536:=by omega
 obtain⟨n,hn⟩:∃n,256*x4+x5=n:=⟨_,rfl⟩
 obtain⟨y,hy⟩:∃y,x6|||x7=y:=⟨_,rfl⟩
 rw[hn]at hor hF hn16 hop
 rw[hy]at hor8 hy8
 have HF:=qh hF
 have HY:=qh hy8
 have HYY:=qh hy
 clear h4 h5 h6 h7 hn hy hF hy8
 by_cases hq:b.take 4=fourOf s
 ·rw[if_pos hq]at hop
  rw[decide_eq_true hq]at EQ
  by_cases h16:n≤1016
  ·rw[if_pos h16]at hop
   by_cases hy0:y=0
   ·have h67:=HY.out hy0
    have hff:formOK b↔∀x∈b.drop (8+n),x=0:=HF.out.trans ⟨fun q=>q.2.2,fun q=>⟨h67.1,h67.2,q⟩⟩
    have hr1:(∀x∈b.drop (8+n),x=0)→openP b=((b.drop 8).take n,0):=fun h=>by rw[hop,if_pos (hff.2 h)]
    have hr2:(∃x∈b.drop (8+n),x≠0)→openP b=([],4):=fun⟨x,hx,h⟩=>by rw[hop,if_neg (fun q=>h (hff.1 q x hx))]
    by_cases hn16b:n=1016
    ·exact open_full g o b w HL AT s x4 x5 x6 x7 n y AC b4 b5 hor hor8 SU EQ FO hn16b hy0 _ hr1
    ·exact open_good g o b w HL AT s x4 x5 x6 x7 n y AC b4 b5 hor hor8 SU EQ FO (by omega) hy0 _ hr1 hr2
   ·have hfn:¬formOK b:=fun q=>hy0 (by have:=HF.out.1 q;rw[←HYY.out,this.1,this.2.1];rfl)
    rw[hop,if_neg hfn]
    exact open_bad g o b w HL AT s x4 x5 x6 x7 n y AC b4 b5 hor hor8 SU EQ FO h16 hy0
  ·rw[hop,if_neg h16]
   exact open_big g o b w HL AT s x4 x5 x6 x7 n y AC b4 b5 hor hor8 SU EQ FO (by omega)
 ·rw[if_neg hq]at hop
  rw[decide_eq_false hq]at EQ
  rw[hop]
  exact open_sum g o b w HL AT s x4 x5 x6 x7 n y AC b4 b5 hor hor8 SU EQ FO
end
end Go.Proofs.YtmiglhlbhbfodaaGreatDoor
