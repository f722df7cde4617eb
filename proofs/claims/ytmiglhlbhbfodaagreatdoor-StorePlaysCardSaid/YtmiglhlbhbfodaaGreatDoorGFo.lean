/- GFo: Find, Ones, Bm5. -/
import Derived.Test.YtmiglhlbhbfodaaGreatDoorBits
import Derived.Test.YtmiglhlbhbfodaaGreatDoorGBmA
set_option maxRecDepth 100000
namespace Go.Proofs.YtmiglhlbhbfodaaGreatDoor
theorem pop_snoc(k x:Nat):pop (k+1) x=pop k x+(x.testBit k).toNat:=by
 rw[pop_add]
 have h:pop 1 (x / 2^k)=x / 2^k % 2:=by simp[pop]
 have t:=testBit_div x k
 rw[h]
 cases hb:x.testBit k
 ·have:¬x / 2^k % 2=1:=fun e=>by rw[t.1 e]at hb;cases hb
  simp;omega
 ·rw[t.2 hb];rfl
def cnt(ws:List Nat):Nat→Nat
 |0=>0
 |n+1=>cnt ws n+(bitN ws n).toNat
theorem bitN_at(ws:List Nat)(i j:Nat)(hj:j<64):bitN ws (64*i+j)=(ws.getD i 0).testBit j:=by
 unfold bitN
 rw[show(64*i+j) / 64=i from by omega,show(64*i+j) % 64=j from by omega]
theorem cnt_part(ws:List Nat)(i j:Nat)(hj:j≤64):cnt ws (64*i+j)=cnt ws (64*i)+pop j (ws.getD i 0):=by
 induction j with
 |zero=>simp[pop]
 |succ j ih=>
  rw[show 64*i+(j+1)=(64*i+j)+1 from by omega,cnt,ih (by omega),pop_snoc,bitN_at ws i j (by omega),Nat.add_assoc]
theorem cnt_word(ws:List Nat)(i:Nat):cnt ws (64*(i+1))=cnt ws (64*i)+pop 64 (ws.getD i 0):=cnt_part ws i 64 (Nat.le_refl _)
theorem pop_ext(k x y:Nat)(h:∀j,j<k→x.testBit j=y.testBit j):pop k x=pop k y:=by
 induction k with
 |zero=>rfl
 |succ k ih=>rw[pop_snoc,pop_snoc,ih (fun j hj=>h j (by omega)),h k (by omega)]
theorem pop_zero(k x:Nat)(h:∀j,j<k→x.testBit j=false):pop k x=0:=by
 induction k with
 |zero=>rfl
 |succ k ih=>rw[pop_snoc,ih (fun j hj=>h j (by omega)),h k (by omega)];rfl
theorem pop_shl(x k:Nat)(hk:k≤64):pop 64 (x*2^(64 - k) % 18446744073709551616)=pop k x:=by
 have e:∀j,(x*2^(64 - k) % 18446744073709551616).testBit j=(decide (j<64)&&(decide (64 - k≤j)&&x.testBit (j - (64 - k)))):=by
  intro j
  rw[show(18446744073709551616:Nat)=2^64 from rfl,Nat.testBit_mod_two_pow,Nat.testBit_mul_two_pow]
 have s:=pop_add (64 - k) k (x*2^(64 - k) % 18446744073709551616)
 rw[show 64 - k+k=64 from by omega]at s
 rw[s,pop_zero (64 - k),Nat.zero_add]
 ·apply pop_ext
  intro j hj
  rw[Nat.testBit_div_two_pow,e]
  simp
  intro;omega
 ·intro j hj
  rw[e]
  have:¬64 - k≤j:=by omega
  simp[this]
theorem ctz_low(x:Nat)(h0:x≠0)(h:x<18446744073709551616):Lib.ctz 64 x<64∧x.testBit (Lib.ctz 64 x)=true∧(∀j,j<Lib.ctz 64 x→x.testBit j=false)∧
 ∀j,(x&&& (x - 1)).testBit j=(x.testBit j&&decide (j≠Lib.ctz 64 x)):=by
 obtain⟨m,hm,hk⟩:=Lib.ctzFrom_spec 64 x (by omega) h
 have e:Lib.ctz 64 x=Lib.ctzFrom 64 x:=by simp[Lib.ctz,h0]
 rw[e]
 generalize Lib.ctzFrom 64 x=c at*
 have t:∀j,x.testBit j=(decide (c≤j)&&(2*m+1).testBit (j - c)):=fun j=>by rw[hm,Nat.mul_comm,Nat.testBit_mul_two_pow]
 have hp:0<2^c:=Nat.two_pow_pos c
 have s:x - 1=2^c*(2*m)+(2^c - 1):=by rw[hm,Nat.mul_add];omega
 refine⟨hk,by rw[t];simp[Nat.testBit_zero],fun j hj=>by rw[t];simp;omega,?_⟩
 intro j
 rw[Nat.testBit_and,s,Nat.testBit_two_pow_mul_add _ (by omega),t j]
 by_cases hj:j<c
 ·have:¬c≤j:=by omega
  simp[this]
 ·rw[if_neg hj]
  have hc:c≤j:=by omega
  by_cases hjc:j=c
  ·subst hjc;simp[Nat.testBit_zero]
  ·obtain⟨d,rfl⟩:∃d,j=c+(d+1):=⟨j - c - 1,by omega⟩
   have e3:c+(d+1) - c=d+1:=by omega
   rw[e3,Nat.testBit_succ,Nat.testBit_succ,show(2*m+1) / 2=m from by omega,show 2*m / 2=m from by omega]
   simp
def NextSpec(s:Int)(ws:List Nat)(f:Int)(on:Bool):Option Nat→Prop
 |some n=>mapOK s ws=true∧f≤n∧(n:Int)<s∧bitN ws n=on∧∀j:Nat,f≤j→j<n→bitN ws j= !on
 |none=>mapOK s ws=true→∀j:Nat,f≤j→(j:Int)<s→bitN ws j= !on
theorem next_one{s:Int}{ws:List Nat}{f:Int}{on:Bool}{a b:Option Nat}(ha:NextSpec s ws f on a)(hb:NextSpec s ws f on b):a=b:=by
 cases a with
 |none=>cases b with
  |none=>rfl
  |some n=>obtain⟨h0,h1,h2,h3,_⟩:=hb;have:=ha h0 n h1 h2;rw[h3]at this;cases on<;>cases this
 |some m=>cases b with
  |none=>obtain⟨h0,h1,h2,h3,_⟩:=ha;have:=hb h0 m h1 h2;rw[h3]at this;cases on<;>cases this
  |some n=>
   obtain⟨_,h1,h2,h3,h4⟩:=ha
   obtain⟨_,k1,k2,k3,k4⟩:=hb
   by_cases h:m<n
   ·have:=k4 m h1 h;rw[h3]at this;cases on<;>cases this
   ·by_cases h':n<m
    ·have:=h4 n k1 h';rw[k3]at this;cases on<;>cases this
    ·rw[show m=n from by omega]
def rankN(s:Int)(ws:List Nat)(n:Int):Nat:=if mapOK s ws then cnt ws (min n s).toNat else 0
end Go.Proofs.YtmiglhlbhbfodaaGreatDoor
set_option maxHeartbeats 4000000
set_option maxRecDepth 16000
namespace Go.Proofs.YtmiglhlbhbfodaaGreatDoor
theorem bits_ones_core(x y1 y2 y3 y4 y5 y6 p1 p2 q1 q2 r:Nat)(w:World)
 (e1:bits BinOp.and IntKind.u64 ((x:Int) / 2) 6148914691236517205=(p1:Int))
 (e2:bits BinOp.and IntKind.u64 (x:Int) 6148914691236517205=(p2:Int))
 (e3:IntKind.u64.wrap ((p1:Int)+p2)=(y1:Int))
 (f1:bits BinOp.and IntKind.u64 ((y1:Int) / 4) 3689348814741910323=(q1:Int))
 (f2:bits BinOp.and IntKind.u64 (y1:Int) 3689348814741910323=(q2:Int))
 (f3:IntKind.u64.wrap ((q1:Int)+q2)=(y2:Int))
 (g1:bits BinOp.and IntKind.u64 (IntKind.u64.wrap ((y2:Int) / 16+y2)) 1085102592571150095=(y3:Int))
 (h1:IntKind.u64.wrap ((y3:Int)+(y3:Int) / 256)=(y4:Int))
 (h2:IntKind.u64.wrap ((y4:Int)+(y4:Int) / 65536)=(y5:Int))
 (h3:IntKind.u64.wrap ((y5:Int)+(y5:Int) / 4294967296)=(y6:Int))
 (k1:bits BinOp.and IntKind.i64 (RowKit.wrap64 (y6:Int)) 127=(r:Int)):
 Calls Tryz.prog 53 #[.int .u64 x] w fun e w'=>e=.returned (.int .i64 r)∧w=w':=by
 go_enter Tryz.func53,Tryz.ntmps53
 go_wp2_with(simp only[e1,e2,e3,f1,f2,f3,g1,h1,h2,h3,k1])
 go_ret
 exact⟨rfl,rfl⟩
theorem fld_top(n x:Nat):255*fld 8 n x+8≤8*256^n:=by
 induction n generalizing x with
 |zero=>simp[fld]
 |succ n ih=>
  have:=ih (x / 2^8)
  have h:=pop_le 8 x
  simp only[fld]
  rw[Nat.pow_succ 256 n]
  generalize fld 8 n (x / 2^8)=z at*
  omega
theorem fld_top4(n x:Nat):15*fld 4 n x+4≤4*16^n:=by
 induction n generalizing x with
 |zero=>simp[fld]
 |succ n ih=>
  have:=ih (x / 2^4)
  have h:=pop_le 4 x
  simp only[fld]
  rw[Nat.pow_succ 16 n]
  generalize fld 4 n (x / 2^4)=z at*
  omega
theorem wrap_127(z r:Nat)(h:z % 128=r):RowKit.wrap64 (z:Int) % 128=r:=by
 subst h
 have e:RowKit.wrap64 (z:Int) % 128=(z:Int) % 128:=by
  unfold RowKit.wrap64
  omega
 rw[e];rfl
theorem and_cast(x m:Nat)(hx:x<18446744073709551616)(hm:m<18446744073709551616):bits .and .u64 (x:Int) (m:Int)=((x&&& m:Nat):Int):=u64_and_nat x m hx hm
theorem bits_ones(x:Nat)(w:World)(hx:x<18446744073709551616):
 Calls Tryz.prog 53 #[.int .u64 x] w fun e w'=>e=.returned (.int .i64 ((pop 64 x:Nat):Int))∧w=w':=by
 have a1:fld 1 64 x=x:=fld_one 64 x hx
 have s1:=fld_step 1 32 x
 have s2:=fld_step 2 16 x
 have s3:=fld_room 8 x
 have s4:=fld_sum x
 have l2:=fld_lt 2 32 x
 have l4:=fld_lt 4 16 x
 have l8:=fld_top 8 x
 have l44:=fld_top4 16 x
 have hp:=pop_le 64 x
 rw[show 32+32=64 from rfl,show 1+1=2 from rfl,a1,msk_32]at s1
 rw[show 16+16=32 from rfl,show 2+2=4 from rfl,msk_16]at s2
 rw[show 8+8=16 from rfl,msk_8]at s3
 rw[show 2*32=64 from rfl]at l2
 rw[show 4*16=64 from rfl]at l4
 generalize fld 2 32 x=y1 at*
 generalize fld 4 16 x=y2 at*
 generalize fld 8 8 x=y3 at*
 generalize pop 64 x=r at*
 have b3:y3≤578721382704613384:=by clear s1 s2 s3 s4;omega
 have b2:y2≤4919131752989213764:=by clear s1 s2 s3 s4 l8 b3;omega
 clear l8 l44
 refine bits_ones_core x y1 y2 y3 (y3+y3 / 256) (y3+y3 / 256+(y3+y3 / 256) / 65536) (y3+y3 / 256+(y3+y3 / 256) / 65536+(y3+y3 / 256+(y3+y3 / 256) / 65536) / 4294967296)
  (x / 2&&& 6148914691236517205) (x&&& 6148914691236517205) (y1 / 4&&& 3689348814741910323) (y1&&& 3689348814741910323) r w ?_ (and_cast x 6148914691236517205 hx (by decide)) ?_ ?_ (and_cast y1 3689348814741910323 l2 (by decide)) ?_ ?_ ?_ ?_ ?_ ?_
 ·exact and_cast (x / 2) 6148914691236517205 (by omega) (by decide)
 ·rw[←Int.natCast_add,show(x / 2&&& 6148914691236517205)+(x&&& 6148914691236517205)=y1 from s1]
  exact u64_wrap _ (by omega) (by clear s1 s2 s3 s4;omega)
 ·exact and_cast (y1 / 4) 3689348814741910323 (by omega) (by decide)
 ·rw[←Int.natCast_add,show(y1 / 4&&& 3689348814741910323)+(y1&&& 3689348814741910323)=y2 from s2]
  exact u64_wrap _ (by omega) (by clear s1 s2 s3 s4;omega)
 ·have e:(y2:Int) / 16+y2=((y2 / 16+y2:Nat):Int):=by simp
  have hb:y2 / 16+y2<18446744073709551616:=by clear s1 s2 s3 s4 b3;omega
  rw[e,u64_wrap _ (by omega) (by clear s1 s2 s3 s4 b3;omega),show(1085102592571150095:Int)=((1085102592571150095:Nat):Int)from rfl,and_cast _ _ hb (by decide),show(y2 / 16+y2&&& 1085102592571150095)=y3 from s3]
 ·exact u64_wrap _ (by clear s1 s2 s3 s4;omega) (by clear s1 s2 s3 s4;omega)
 ·exact u64_wrap _ (by clear s1 s2 s3 s4;omega) (by clear s1 s2 s3 s4;omega)
 ·exact u64_wrap _ (by clear s1 s2 s3 s4;omega) (by clear s1 s2 s3 s4;omega)
 ·generalize y3+y3 / 256+(y3+y3 / 256) / 65536+(y3+y3 / 256+(y3+y3 / 256) / 65536) / 4294967296=z at*
  rw[i64_and127]
  exact wrap_127 _ _ s4
end Go.Proofs.YtmiglhlbhbfodaaGreatDoor
namespace Go.Proofs.YtmiglhlbhbfodaaGreatDoor
open Go.RowKit
abbrev foundV(r:Option Nat):Value:=.tuple #[.int .i64 ((r.getD 0:Nat):Int),.bool r.isSome]
end Go.Proofs.YtmiglhlbhbfodaaGreatDoor
