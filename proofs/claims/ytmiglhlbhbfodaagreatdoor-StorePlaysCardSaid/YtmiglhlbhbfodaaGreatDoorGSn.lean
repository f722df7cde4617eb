/- GSn: SnP, Sn1, Eq8, Sn2, Sn3, Sn4, Sn5. -/
import Derived.Test.YtmiglhlbhbfodaaGreatDoorWk
import Derived.Test.YtmiglhlbhbfodaaGreatDoorGOrd
import Derived.ArgAppend
set_option maxHeartbeats 4000000
set_option maxRecDepth 100000
namespace Go.Proofs.YtmiglhlbhbfodaaGreatDoor
section
open Go.RowKit
def stmp(g:Nat):List Nat:=be 8 g
def genS(s:List Nat):Nat:=if 1099511627776<low s then 0 else low s
def bodyAll(b:List Nat):List Nat:=b.length / 256::b.length % 256::(b++List.replicate (954 - b.length) 0)
def partSl(b:List Nat)(i:Nat):List Nat:=((bodyAll b).drop (i*239)).take 239
def slotSec(g:Nat)(b:List Nat)(i:Nat):List Nat:=stmp g++[i]++partSl b i++stmp g
def putSl(g:Nat)(b:List Nat):List (List Nat):=(List.range 4).map (slotSec g b)
def putSlE(g:Int)(n:Nat):Nat:=if g<1∨1099511627776<g then 9 else if 954<n then 5 else 0
def frontS(b:List Nat):List Nat:=b.take 8
def backS(b:List Nat):List Nat:=b.drop (b.length - 8)
def stampE(b:List Nat):Option Nat:=if b.length=256∧frontS b=backS b∧1≤genS (frontS b)then some (genS (frontS b))else none
def seen1(n:Nat)(b:List Nat):Nat:=if b.length=256 then max n (max (genS (frontS b)) (genS (backS b)))else n
def seenSl(l:List (List Nat)):Nat:=l.foldl seen1 0
def allSl(l:List (List Nat)):List Nat:=l.flatMap fun b=>(b.drop 9).take 239
def lenSl(l:List (List Nat)):Nat:=256*(allSl l).getD 0 0+(allSl l).getD 1 0
def bodySl(l:List (List Nat)):List Nat:=((allSl l).drop 2).take (lenSl l)
def genSl(l:List (List Nat)):Nat:=(stampE (l.getD 0 [])).getD 0
def okSl(l:List (List Nat)):Bool:=l.all fun b=>decide (stampE b=some (genSl l))
def getSl(l:List (List Nat)):Nat×List Nat×Nat:=
 if okSl l=false then(0,[],3)else if 954<lenSl l then(0,[],4)else if putSl (genSl l) (bodySl l)=l then(genSl l,bodySl l,0)else(0,[],4)
theorem stmp_len(g:Nat):(stmp g).length=8:=be_length 8 g
theorem stmp_bts(g:Nat):Bts (stmp g):=be_byte 8 g
theorem stmp_low{g:Nat}(h:g<18446744073709551616):low (stmp g)=g:=low_be 8 g (by simpa using h)
theorem stmp_all(g:Nat):stmp g=[g / 72057594037927936 % 256,g / 281474976710656 % 256,g / 1099511627776 % 256,g / 4294967296 % 256,g / 16777216 % 256,g / 65536 % 256,g / 256 % 256,g % 256]:=by
 unfold stmp
 simp only[be_head]
 simp[be]
theorem genS_le(s:List Nat):genS s≤1099511627776:=by unfold genS;split<;>omega
theorem genS_stmp{g:Nat}(h:g≤1099511627776):genS (stmp g)=g:=by unfold genS;rw[stmp_low (by omega)];rw[if_neg (by omega)]
theorem bodyAll_len{b:List Nat}(h:b.length≤954):(bodyAll b).length=956:=by simp[bodyAll];omega
theorem bodyAll_bts{b:List Nat}(h:b.length≤954)(hb:Bts b):Bts (bodyAll b):=by
 intro x hx
 simp only[bodyAll,List.mem_cons,List.mem_append,List.mem_replicate]at hx
 rcases hx with rfl|rfl|hx|⟨_,rfl⟩
 ·omega
 ·omega
 ·exact hb x hx
 ·omega
theorem partSl_len{b:List Nat}(h:b.length≤954){i:Nat}(hi:i<4):(partSl b i).length=239:=by
 unfold partSl
 rw[List.length_take,List.length_drop,bodyAll_len h]
 omega
theorem slotSec_len{b:List Nat}(h:b.length≤954)(g:Nat){i:Nat}(hi:i<4):(slotSec g b i).length=256:=by
 unfold slotSec
 simp[stmp_len,partSl_len h hi]
theorem slotSec_bts{b:List Nat}(h:b.length≤954)(hb:Bts b)(g:Nat){i:Nat}(hi:i<4):Bts (slotSec g b i):=by
 unfold slotSec
 exact(((stmp_bts g).app (fun x hx=>by simp at hx;omega)).app (((bodyAll_bts h hb).drop _).take _)).app (stmp_bts g)
theorem putSl_len(g:Nat)(b:List Nat):(putSl g b).length=4:=by simp[putSl]
theorem seen1_le{n:Nat}(b:List Nat)(h:n≤1099511627776):seen1 n b≤1099511627776:=by
 unfold seen1
 have h1:=genS_le (frontS b)
 have h2:=genS_le (backS b)
 split<;>omega
theorem seenSl_le(l:List (List Nat)):seenSl l≤1099511627776:=by
 unfold seenSl
 suffices H:∀(l:List (List Nat)) (n:Nat),n≤1099511627776→l.foldl seen1 n≤1099511627776 from H l 0 (by omega)
 intro l
 induction l with
 |nil=>intro n h;exact h
 |cons b l ih=>intro n h;exact ih _ (seen1_le b h)
end
section
open Go.RowKit Go.Sort Go.Shelf
def stL(g i:Nat):List Nat:=(stmp g).take i++List.replicate (8 - i) 0
def stA(g i:Nat):Array Value:=(encB (stL g i)).toArray
theorem stA_step(g i v:Nat)(hi:i<8)(hv:(stmp g)[i]? =some v):stA g (i+1)=(stA g i).setIfInBounds i (.int .u8 (v:Nat)):=by
 have h8:=stmp_len g
 have hm:i<(stmp g).length:=by omega
 unfold stA encB
 rw[List.setIfInBounds_toArray]
 congr 1
 rw[show(Value.int .u8 (v:Nat))=(fun x:Nat=>Value.int .u8 (x:Nat)) v from rfl,←List.map_set]
 congr 1
 unfold stL
 apply List.ext_getElem?
 intro j
 rw[List.getElem?_set]
 by_cases hj:i=j
 ·subst hj
  have hl:i<((stmp g).take i++List.replicate (8 - i) 0).length:=by simp;omega
  rw[if_pos rfl,if_pos hl]
  rw[List.getElem?_append_left (by simp;omega),List.getElem?_take,if_pos (by omega),hv]
 ·rw[if_neg hj]
  rcases Nat.lt_or_ge j i with z|z
  ·rw[List.getElem?_append_left (by simp;omega),List.getElem?_append_left (by simp;omega),List.getElem?_take,List.getElem?_take,if_pos (by omega),if_pos z]
  ·rw[List.getElem?_append_right (by simp;omega),List.getElem?_append_right (by simp;omega)]
   simp only[List.getElem?_replicate,List.length_take,h8]
   rw[Nat.min_eq_left (by omega),Nat.min_eq_left (by omega)]
   by_cases q:j<8
   ·rw[if_pos (by omega),if_pos (by omega)]
   ·rw[if_neg (by omega),if_neg (by omega)]
theorem stA_full(g:Nat):stA g 8=(encB (stmp g)).toArray:=by
 unfold stA stL
 rw[List.take_of_length_le (by rw[stmp_len];exact Nat.le_refl _)]
 simp
theorem list8{α:Type}{l:List α}(h:l.length=8):∃b0 b1 b2 b3 b4 b5 b6 b7,l=[b0,b1,b2,b3,b4,b5,b6,b7]:=by
 match l,h with
 |[b0,b1,b2,b3,b4,b5,b6,b7],_=>exact⟨b0,b1,b2,b3,b4,b5,b6,b7,rfl⟩
theorem Blk.set8{w:World}{b:Nat}{v0 v1 v2 v3 v4 v5 v6 v7 u0 u1 u2 u3 u4 u5 u6 u7:Value}{t:TypeId}(h:Blk w b #[v0,v1,v2,v3,v4,v5,v6,v7] t):
 Blk ((((((((w.setCell ⟨b,0,none⟩ u0).setCell ⟨b,1,none⟩ u1).setCell ⟨b,2,none⟩ u2).setCell ⟨b,3,none⟩ u3).setCell ⟨b,4,none⟩ u4).setCell ⟨b,5,none⟩ u5).setCell ⟨b,6,none⟩ u6).setCell ⟨b,7,none⟩ u7) b #[u0,u1,u2,u3,u4,u5,u6,u7] t:=by
 have h0:Blk _ b #[u0,v1,v2,v3,v4,v5,v6,v7] t:=h.set 0 u0
 have h1:Blk _ b #[u0,u1,v2,v3,v4,v5,v6,v7] t:=h0.set 1 u1
 have h2:Blk _ b #[u0,u1,u2,v3,v4,v5,v6,v7] t:=h1.set 2 u2
 have h3:Blk _ b #[u0,u1,u2,u3,v4,v5,v6,v7] t:=h2.set 3 u3
 have h4:Blk _ b #[u0,u1,u2,u3,u4,v5,v6,v7] t:=h3.set 4 u4
 have h5:Blk _ b #[u0,u1,u2,u3,u4,u5,v6,v7] t:=h4.set 5 u5
 have h6:Blk _ b #[u0,u1,u2,u3,u4,u5,u6,v7] t:=h5.set 6 u6
 have h7:Blk _ b #[u0,u1,u2,u3,u4,u5,u6,u7] t:=h6.set 7 u7
 exact h7
theorem sn_of(g:Nat)(hg:g<9223372036854775808)(w:World):
 Calls Tryz.prog 118 #[.int .i64 (g:Nat)] w fun e w'=>e=.returned (secV (stmp g))∧Same w w':=by
 have HS:=qh (stmp_all g)
 have HG:=qh hg
 clear hg
 go_enter Tryz.func118,Tryz.ntmps118
 go_upto_region 2 with fail
 obtain⟨y,hy⟩:∃y,w.heap.size=y:=⟨_,rfl⟩
 rw[hy]
 refine cutWl (fun wn=>Fr wn [(y+1,stA g 0,178),(y,stA g 0,178)]∧Same w wn) ⟨⟨Blk.new' _ _ _ (by simp[hy]),(Blk.new' _ _ _ hy.symm).alloc _,trivial⟩,((Kept.refl _ _).alloc _).alloc _⟩ ?_
 rintro w4 ⟨hf4,k4⟩
 have F4:=qh hf4
 have K4:=qh k4
 have HY:=qh hy
 clear hf4 k4 hy
 go_wp2_with fail
 go_loopw [5] (fun t wr=>∃(i:Nat),t=.int .i64 i∧i≤8∧Fr wr [(y+1,stA g i,178),(y,stA g 0,178)]∧Same w wr) (fun t _=>8 - (intOf t).toNat)
 case atStart=>exact⟨0,rfl,by omega,F4.out,K4.out⟩
 case round=>
  obtain⟨i,rfl,hi,hf,hk⟩:=hrel
  have K:=qh hk
  have F:=qh hf
  clear hk hf F4 K4
  by_cases hgo:i<8
  ·have B:=qh F.out.1
   have f0:=fun j=>Blk.free F.out.1 j
   have z0:=F.out.1.lt
   have c0:∃u,wr.cell? ⟨y+1,i,none⟩=some u:=by
    rw[cell_blk F.out.1 i]
    show∃u,(stA g i)[i]? =some u
    have hs:(stA g i).size=8:=by unfold stA encB stL;simp[stmp_len];omega
    exact⟨_,Array.getElem?_eq_getElem (by omega)⟩
   obtain⟨u,c0⟩:=c0
   have FIN:=qh (fun(v:Nat) (hv:(stmp g)[i]? =some v)=>show Fr (wr.setCell ⟨y+1,i,none⟩ (.int .u8 (v:Nat))) [(y+1,stA g (i+1),178),(y,stA g 0,178)]∧Same w (wr.setCell ⟨y+1,i,none⟩ (.int .u8 (v:Nat)))from
    ⟨⟨by rw[stA_step g i v hgo hv];exact F.out.1.set i _,F.out.2.1.kept ((Kept.refl _ wr).setG i _) (by omega),trivial⟩,K.out.setNew (by dsimp only;have:=HY.out;omega) _⟩)
   rw[HS.out]at FIN
   have hgg:=HG.out
   have hcase:i=0∨i=1∨i=2∨i=3∨i=4∨i=5∨i=6∨i=7:=by omega
   clear B F K hi hgo HS
   rcases hcase with rfl|rfl|rfl|rfl|rfl|rfl|rfl|rfl
   ·go_wp2_with fail
    have e:=FIN.out _ rfl
    rw[show(((g / 72057594037927936 % 256:Nat)):Int)=(g:Int) / 72057594037927936 from by omega]at e
    exact⟨⟨1,rfl,by omega,e⟩,by simp[intOf]⟩
   ·go_wp2_with fail
    have e:=FIN.out _ rfl
    rw[show(((g / 281474976710656 % 256:Nat)):Int)=(g:Int) / 281474976710656 % 256 from by omega]at e
    exact⟨⟨2,rfl,by omega,e⟩,by simp[intOf]⟩
   ·go_wp2_with fail
    have e:=FIN.out _ rfl
    rw[show(((g / 1099511627776 % 256:Nat)):Int)=(g:Int) / 1099511627776 % 256 from by omega]at e
    exact⟨⟨3,rfl,by omega,e⟩,by simp[intOf]⟩
   ·go_wp2_with fail
    have e:=FIN.out _ rfl
    rw[show(((g / 4294967296 % 256:Nat)):Int)=(g:Int) / 4294967296 % 256 from by omega]at e
    exact⟨⟨4,rfl,by omega,e⟩,by simp[intOf]⟩
   ·go_wp2_with fail
    have e:=FIN.out _ rfl
    rw[show(((g / 16777216 % 256:Nat)):Int)=(g:Int) / 16777216 % 256 from by omega]at e
    exact⟨⟨5,rfl,by omega,e⟩,by simp[intOf]⟩
   ·go_wp2_with fail
    have e:=FIN.out _ rfl
    rw[show(((g / 65536 % 256:Nat)):Int)=(g:Int) / 65536 % 256 from by omega]at e
    exact⟨⟨6,rfl,by omega,e⟩,by simp[intOf]⟩
   ·go_wp2_with fail
    have e:=FIN.out _ rfl
    rw[show(((g / 256 % 256:Nat)):Int)=(g:Int) / 256 % 256 from by omega]at e
    exact⟨⟨7,rfl,by omega,e⟩,by simp[intOf]⟩
   ·go_wp2_with fail
    have e:=FIN.out _ rfl
    rw[show(((g % 256:Nat)):Int)=(g:Int) % 256 from by omega]at e
    exact⟨⟨8,rfl,by omega,e⟩,by simp[intOf]⟩
  ·have h8:i=8:=by omega
   subst h8
   rw[stA_full]at F
   clear hi
   obtain⟨b0,b1,b2,b3,b4,b5,b6,b7,e8⟩:=list8 (stmp_len g)
   have E8:=qh e8
   rw[e8]at F
   have p1:=cell_blk F.out.1
   have p0:=cell_blk F.out.2.1
   have f0:=fun j=>Blk.free F.out.2.1 j
   have z0:=F.out.2.1.lt
   have z1:=F.out.1.lt
   clear HS e8
   simp only[encB,List.map_cons,List.map_nil]at p1
   rw[show stA g 0=#[.int .u8 0,.int .u8 0,.int .u8 0,.int .u8 0,.int .u8 0,.int .u8 0,.int .u8 0,.int .u8 0]from rfl]at F p0
   go_wp2_with fail
   refine bodyPost_ret (results_two rfl _ _ y _ _ _ rfl (Blk.set8 F.out.2.1) Tryz.underlying178 rfl (by kernel_rfl)) rfl ?_
   refine⟨by rw[E8.out];rfl,?_⟩
   have hyy:=HY.out
   repeat(first|with_reducible exact K.out|refine Kept.setNew ?_ (by dsimp only;omega) _)
theorem idx_st(cs:Array Value)(w:World)(j:Nat)(v:Value)(hs:cs.size=8)(hv:cs[j]? =some v):
 (Instr.index 178 (.agg cs) (.int .i64 (j:Nat))).run Tryz.prog w=.ok v w:=by
 have hj:j<cs.size:=by
  rcases Nat.lt_or_ge j cs.size with q|q
  ·exact q
  ·rw[Array.getElem?_eq_none q]at hv;cases hv
 simp[Instr.index,run_underlying Tryz.underlying178,asIntOf,hv,go_sem]
 intro q
 omega
theorem sn_gen(s:List Nat)(hs:s.length=8)(hb:Bts s)(w:World):
 Calls Tryz.prog 123 #[secV s] w fun e w'=>e=.returned (.int .i64 ((genS s:Nat):Int))∧Same w w':=by
 obtain⟨b0,b1,b2,b3,b4,b5,b6,b7,rfl⟩:=list8 hs
 have B0:=hb b0 (by simp);have B1:=hb b1 (by simp);have B2:=hb b2 (by simp);have B3:=hb b3 (by simp);have B4:=hb b4 (by simp);have B5:=hb b5 (by simp);have B6:=hb b6 (by simp);have B7:=hb b7 (by simp)
 have HB:=qh (show b0<256∧b1<256∧b2<256∧b3<256∧b4<256∧b5<256∧b6<256∧b7<256 from⟨B0,B1,B2,B3,B4,B5,B6,B7⟩)
 clear hs hb B0 B1 B2 B3 B4 B5 B6 B7
 show Calls Tryz.prog 123 #[.agg #[.int .u8 (b0:Nat),.int .u8 (b1:Nat),.int .u8 (b2:Nat),.int .u8 (b3:Nat),.int .u8 (b4:Nat),.int .u8 (b5:Nat),.int .u8 (b6:Nat),.int .u8 (b7:Nat)]] w fun e w'=>e=.returned (.int .i64 ((genS [b0,b1,b2,b3,b4,b5,b6,b7]:Nat):Int))∧Same w w'
 obtain⟨L,hL⟩:∃L,low [b0,b1,b2,b3,b4,b5,b6,b7]=L:=⟨_,rfl⟩
 have HG:=qh (show genS [b0,b1,b2,b3,b4,b5,b6,b7]=if 1099511627776<L then 0 else L from by unfold genS;rw[hL])
 have HL:=qh hL
 clear hL
 go_enter Tryz.func123,Tryz.ntmps123
 go_wp2_with fail
 go_loopw [3,7] (fun v t wr=>∃(i:Nat),t=.int .i64 i∧i≤8∧v=.int .u64 ((low ([b0,b1,b2,b3,b4,b5,b6,b7].take i):Nat):Int)∧Same w wr) (fun _ t _=>8 - (intOf t).toNat)
 case atStart=>exact⟨0,rfl,by omega,rfl,(Kept.refl _ _).alloc _⟩
 case round=>
  obtain⟨i,rfl,hi,rfl,hk⟩:=hrel
  have K:=qh hk
  clear hk
  by_cases hgo:i<8
  ·obtain⟨x,hx⟩:∃x,[b0,b1,b2,b3,b4,b5,b6,b7][i]? =some x:=⟨_,List.getElem?_eq_getElem (by simpa using hgo)⟩
   have hbt:Bts [b0,b1,b2,b3,b4,b5,b6,b7]:=by
    obtain⟨h0,h1,h2,h3,h4,h5,h6,h7⟩:=HB.out
    intro y hy
    simp at hy
    omega
   have hxb:x<256:=hbt x (List.mem_of_getElem? hx)
   have HS:Hid (low ([b0,b1,b2,b3,b4,b5,b6,b7].take (i+1))=256*low ([b0,b1,b2,b3,b4,b5,b6,b7].take i)+x):=low_take_succ _ i x hx
   have hm:low ([b0,b1,b2,b3,b4,b5,b6,b7].take i)<72057594037927936:=by
    have h1:=low_lt ([b0,b1,b2,b3,b4,b5,b6,b7].take i) (fun y hy=>hbt y (List.mem_of_mem_take hy))
    have h2:([b0,b1,b2,b3,b4,b5,b6,b7].take i).length≤7:=by simp;omega
    exact Nat.lt_of_lt_of_le h1 (Nat.le_trans (Nat.pow_le_pow_right (by decide) h2) (by decide))
   have hidx:=fun w=>idx_st #[.int .u8 (b0:Nat),.int .u8 (b1:Nat),.int .u8 (b2:Nat),.int .u8 (b3:Nat),.int .u8 (b4:Nat),.int .u8 (b5:Nat),.int .u8 (b6:Nat),.int .u8 (b7:Nat)] w i (.int .u8 (x:Nat)) rfl (by
    have h1:=congrArg (Option.map fun y:Nat=>Value.int .u8 (y:Nat)) hx
    rw[←List.getElem?_map]at h1
    rw[←Array.getElem?_toList]
    exact h1)
   generalize hm':low ([b0,b1,b2,b3,b4,b5,b6,b7].take i)=m at*
   have HX:=qh hx;have HW:=qh (show bits .or .u64 (IntKind.u64.wrap ((m:Int)*256)) (x:Int)=((256*m+x:Nat):Int)from by rw[u64_wrap _ (by omega) (by omega)];exact or_byte m x hm hxb)
   clear hm' hx hbt hm
   go_wp2_with fail
   go_roundw
   case rel=>exact⟨i+1,by go_num,by omega,by rw[HS.out,HW.out],K.out⟩
   case measure=>simp[intOf];omega
  ·have h8:i=8:=by omega
   subst h8
   rw[show [b0,b1,b2,b3,b4,b5,b6,b7].take 8=[b0,b1,b2,b3,b4,b5,b6,b7]from rfl,HL.out]
   clear hi hgo
   by_cases hbig:1099511627776<L
   ·have HR:=qh (show genS [b0,b1,b2,b3,b4,b5,b6,b7]=0 from by rw[HG.out,if_pos hbig])
    have g1:(1099511627776:Int)<(L:Int):=by omega
    clear hbig
    go_wp2_with fail
    go_ret
    exact⟨by rw[HR.out];rfl,K.out⟩
   ·have HR:=qh (show genS [b0,b1,b2,b3,b4,b5,b6,b7]=L from by rw[HG.out,if_neg hbig])
    have g1:¬(1099511627776:Int)<(L:Int):=by omega
    go_wp2_with fail
    go_ret
    exact⟨by rw[HR.out];rfl,K.out⟩
theorem results_ends{P:Program}{fn:Func}{p q u:Tmp}{ty:TypeId}(h:fn.results=#[.cell p ty,.cell q ty,.tmp u])(tmps:Array Value)(w:World)(g g':Nat)(t t':TypeId)(cs cs':Array Value)(d:TypeDesc)
 (hp:tmps.getD p undef=.pointer (some ⟨g,0,none⟩)) (hg:Blk w g cs t) (hq:tmps.getD q undef=.pointer (some ⟨g',0,none⟩)) (hg':Blk w g' cs' t')
 (hu:P.underlying ty=some d) (hd:(match d with| .struct _| .array _ _=>true|_=>false)=true) (hi:(P.info? ty).map (·.size)=some cs.size) (hi':(P.info? ty).map (·.size)=some cs'.size):
 (results fn tmps).run P w=.ok (.tuple #[.agg cs,.agg cs',tmps.getD u undef]) w:=by
 have hp':tmps[p]?.getD undef=.pointer (some ⟨g,0,none⟩):=by simpa using hp
 have hq':tmps[q]?.getD undef=.pointer (some ⟨g',0,none⟩):=by simpa using hq
 simp[results,h,hp',hq',asAddr,run_loadVar_row w g t ty cs (0,0) d hg hu hd hi,run_loadVar_row w g' t' ty cs' (0,0) d hg' hu hd hi']
def EndsPost(w:World)(b:List Nat)(e:Ending)(w':World):Prop:=e=.returned (.tuple #[secV (if b.length=256 then frontS b else List.replicate 8 0),secV (if b.length=256 then backS b else List.replicate 8 0),.bool (decide (b.length=256))])∧Same w w'
theorem sn_ends(a:Option Addr)(n c:Nat)(b:List Nat)(hn:n=b.length)(hc:n≤c)(w:World)(hat:NatsAt w .u8 a b):
 Calls Tryz.prog 122 #[.slice a n c] w (EndsPost w b):=by
 by_cases h:n=256
 ·subst h
  have HP:=qh (show EndsPost w b=fun e w'=>e=.returned (.tuple #[secV (frontS b),secV (backS b),.bool true])∧Same w w' from by funext e w';unfold EndsPost;rw[if_pos hn.symm,if_pos hn.symm,decide_eq_true hn.symm])
  rw[HP.out]
  obtain⟨bk,off,rfl,hbk⟩:∃bk off,a=some ⟨bk,off,none⟩∧bk<w.heap.size:=by
   rcases hat with rfl|⟨bk,off,e,h,_⟩
   ·cases hn
   ·exact⟨bk,off,e,h⟩
  obtain⟨b0,b1,b2,b3,b4,b5,b6,b7,e8⟩:=list8 (show(frontS b).length=8 from by unfold frontS;rw[List.length_take];omega)
  obtain⟨d0,d1,d2,d3,d4,d5,d6,d7,e9⟩:=list8 (show(backS b).length=8 from by unfold backS;rw[List.length_drop];omega)
  have hcell:∀(i x:Nat),b[i]? =some x→∀w',Kept (fun g=>w.heap.size≤g) w w'→w'.cell? ⟨bk,off+i,none⟩=some (.int .u8 (x:Nat)):=fun i x hx w' k=>by
   rcases hat.kept k (fun y hy=>by cases hy;dsimp only;omega)with h0|⟨bk',off',e,_,hcc⟩
   ·rw[h0]at hx;cases hx
   ·cases e
    exact hcc i x hx
  have hf:∀(i x:Nat),i<8→(frontS b)[i]? =some x→b[i]? =some x:=fun i x hi hx=>by
   unfold frontS at hx
   rw[List.getElem?_take,if_pos hi]at hx
   exact hx
  have hbk2:∀(i x:Nat),(backS b)[i]? =some x→b[248+i]? =some x:=fun i x hx=>by
   unfold backS at hx
   rw[List.getElem?_drop,←hn]at hx
   exact hx
  rw[e8]at hf
  rw[e9]at hbk2
  have QX:=qh (show∀w',Kept (fun g=>w.heap.size≤g) w w'→(w'.cell? ⟨bk,off,none⟩=some (.int .u8 (b0:Nat))∧w'.cell? ⟨bk,off+1,none⟩=some (.int .u8 (b1:Nat))∧w'.cell? ⟨bk,off+2,none⟩=some (.int .u8 (b2:Nat))∧w'.cell? ⟨bk,off+3,none⟩=some (.int .u8 (b3:Nat))∧w'.cell? ⟨bk,off+4,none⟩=some (.int .u8 (b4:Nat))∧w'.cell? ⟨bk,off+5,none⟩=some (.int .u8 (b5:Nat))∧w'.cell? ⟨bk,off+6,none⟩=some (.int .u8 (b6:Nat))∧w'.cell? ⟨bk,off+7,none⟩=some (.int .u8 (b7:Nat)))∧(w'.cell? ⟨bk,off+248,none⟩=some (.int .u8 (d0:Nat))∧w'.cell? ⟨bk,off+248+1,none⟩=some (.int .u8 (d1:Nat))∧w'.cell? ⟨bk,off+248+2,none⟩=some (.int .u8 (d2:Nat))∧w'.cell? ⟨bk,off+248+3,none⟩=some (.int .u8 (d3:Nat))∧w'.cell? ⟨bk,off+248+4,none⟩=some (.int .u8 (d4:Nat))∧w'.cell? ⟨bk,off+248+5,none⟩=some (.int .u8 (d5:Nat))∧w'.cell? ⟨bk,off+248+6,none⟩=some (.int .u8 (d6:Nat))∧w'.cell? ⟨bk,off+248+7,none⟩=some (.int .u8 (d7:Nat)))from fun w' k=>
   ⟨⟨hcell 0 _ (hf 0 _ (by decide) rfl) w' k,hcell 1 _ (hf 1 _ (by decide) rfl) w' k,hcell 2 _ (hf 2 _ (by decide) rfl) w' k,hcell 3 _ (hf 3 _ (by decide) rfl) w' k,hcell 4 _ (hf 4 _ (by decide) rfl) w' k,hcell 5 _ (hf 5 _ (by decide) rfl) w' k,hcell 6 _ (hf 6 _ (by decide) rfl) w' k,hcell 7 _ (hf 7 _ (by decide) rfl) w' k⟩,
    ⟨hcell 248 _ (hbk2 0 _ rfl) w' k,hcell 249 _ (hbk2 1 _ rfl) w' k,hcell 250 _ (hbk2 2 _ rfl) w' k,hcell 251 _ (hbk2 3 _ rfl) w' k,hcell 252 _ (hbk2 4 _ rfl) w' k,hcell 253 _ (hbk2 5 _ rfl) w' k,hcell 254 _ (hbk2 6 _ rfl) w' k,hcell 255 _ (hbk2 7 _ rfl) w' k⟩⟩)
  have hA1:=fun w=>run_arrayAt Tryz.prog Tryz.underlying178 (some ⟨bk,off,none⟩) 8 c (Nat.le_refl _) w
  have hA2:=fun w=>run_arrayAt Tryz.prog Tryz.underlying178 (some ⟨bk,off+248,none⟩) 8 (c - 248) (Nat.le_refl _) w
  clear hat hn HP hcell hf hbk2
  rw[e8,e9]
  clear e8 e9
  have g8:(8:Int)≤(c:Int):=by omega
  have gw:IntKind.i64.wrap 248=248:=by decide
  have gc:¬c=248:=by omega
  go_enter Tryz.func122,Tryz.ntmps122
  go_upto_region 3 with fail
  obtain⟨y,hy⟩:∃y,w.heap.size=y:=⟨_,rfl⟩
  rw[hy]
  refine cutWl (fun wn=>Fr wn [(y+1,stA 0 0,178),(y,stA 0 0,178)]∧Same w wn) ⟨⟨Blk.new' _ _ _ (by simp[hy]),(Blk.new' _ _ _ hy.symm).alloc _,trivial⟩,((Kept.refl _ _).alloc _).alloc _⟩ ?_
  rintro w4 ⟨hf4,k4⟩
  rw[show stA 0 0=#[.int .u8 0,.int .u8 0,.int .u8 0,.int .u8 0,.int .u8 0,.int .u8 0,.int .u8 0,.int .u8 0]from rfl]at hf4
  have F4:=qh hf4
  have K4:=qh k4
  have HY:=qh hy
  clear hf4 k4 hy
  go_wp2_with fail
  refine wp_region_T (S:=fun w'=>Kept (fun g=>w.heap.size≤g) w w') 12 (by kernel_rfl) ((K4.out.mono (fun _ _ q=>q.elim)).drew) (fun hHeld hDn=>?_)
  refine wpT_z 0 10 QX hHeld hDn fun hDn=>?_
  refine wpT_z 1 11 QX hHeld hDn fun hDn=>?_
  refine wpT_z 2 12 QX hHeld hDn fun hDn=>?_
  refine wpT_z 3 13 QX hHeld hDn fun hDn=>?_
  refine wpT_z 4 14 QX hHeld hDn fun hDn=>?_
  refine wpT_z 5 15 QX hHeld hDn fun hDn=>?_
  refine wpT_z 6 16 QX hHeld hDn fun hDn=>?_
  refine wpT_z 7 17 QX hHeld hDn fun hDn=>?_
  refine wpT_z 8 18 QX hHeld hDn fun hDn=>?_
  refine wpT_z 9 19 QX hHeld hDn fun hDn=>?_
  refine wpT_z 10 20 QX hHeld hDn fun hDn=>?_
  clear QX hA1 hA2
  have p0:=cell_blk F4.out.2.1
  have f0:=fun i=>Blk.free F4.out.2.1 i
  have z0:=F4.out.2.1.lt
  refine wpT_one (i:=11) rfl (by kernel_rfl) hDn (fun K' hK=>?_)
  go_simp
  have hyy:=HY.out
  refine hK.out _ _ ?_ (fun hHeld2 hDn2=>?_)
  ·refine Kept.drew ?_
   have K0:=K4.out.mono (fp':=fun g=>w.heap.size≤g) (fun _ _ q=>q.elim)
   repeat(first|with_reducible exact K0|refine Kept.setCell ?_ (fun q=>by dsimp only at q ⊢;omega) _)
  clear hK K' hHeld hDn
  have hHeld:=hHeld2;have hDn:=hDn2
  clear hHeld2 hDn2 p0 f0 z0
  refine cutT (fun wn=>Fr wn [(y,(encB [b0,b1,b2,b3,b4,b5,b6,b7]).toArray,178),(y+1,#[.int .u8 0,.int .u8 0,.int .u8 0,.int .u8 0,.int .u8 0,.int .u8 0,.int .u8 0,.int .u8 0],178)]∧Same w wn) ?_ ?_
  ·have hb:=Blk.set8 (u0:=.int .u8 (b0:Nat)) (u1:=.int .u8 (b1:Nat)) (u2:=.int .u8 (b2:Nat)) (u3:=.int .u8 (b3:Nat)) (u4:=.int .u8 (b4:Nat)) (u5:=.int .u8 (b5:Nat)) (u6:=.int .u8 (b6:Nat)) (u7:=.int .u8 (b7:Nat)) F4.out.2.1
   refine⟨⟨hb.drew,?_,trivial⟩,?_⟩
   ·have K0:=Kept.refl (fun g=>g=y) w4
    refine F4.out.1.kept (fp:=fun g=>g=y) (Kept.drew ?_) (show¬y+1=y by omega)
    repeat(first|with_reducible exact K0|refine Kept.setG ?_ _ _)
   ·refine Kept.drew ?_
    repeat(first|with_reducible exact K4.out|refine Kept.setNew ?_ (by dsimp only;omega) _)
  rintro w5 ⟨hf5,k5⟩
  have F5:=qh hf5
  have K5:=qh k5
  clear hf5 k5 F4 K4
  have p0:=cell_blk F5.out.2.1
  have f0:=fun i=>Blk.free F5.out.2.1 i
  have z0:=F5.out.2.1.lt
  refine wpT_last rfl (by kernel_rfl) hDn (fun K hK=>?_)
  go_simp
  refine hK.out _ _ (fun hDn'=>?_)
  clear hK K hDn hHeld;have hDn:=hDn';clear hDn'
  refine wpT_ze 13 4 hDn fun hDn=>?_
  refine wpT_done (by kernel_rfl) ?_ _
  clear hDn
  go_wp2_with fail
  have BB:=Blk.set8 (u0:=.int .u8 (d0:Nat)) (u1:=.int .u8 (d1:Nat)) (u2:=.int .u8 (d2:Nat)) (u3:=.int .u8 (d3:Nat)) (u4:=.int .u8 (d4:Nat)) (u5:=.int .u8 (d5:Nat)) (u6:=.int .u8 (d6:Nat)) (u7:=.int .u8 (d7:Nat)) F5.out.2.1
  refine bodyPost_ret (results_ends rfl _ _ y (y+1) _ _ _ _ _ rfl (F5.out.1.kept (fp:=fun g=>g=y+1) ?_ (show¬y=y+1 by omega)) rfl BB Tryz.underlying178 rfl (by kernel_rfl) (by kernel_rfl)) rfl ?_
  ·have K0:=Kept.refl (fun g=>g=y+1) w5
   repeat(first|with_reducible exact K0|refine Kept.setG ?_ _ _)
  ·refine⟨rfl,?_⟩
   have hyy:=HY.out
   repeat(first|with_reducible exact K5.out|refine Kept.setNew ?_ (by dsimp only;omega) _)
 ·have h1:¬b.length=256:=by omega
  have g1:¬(n:Int)=256:=by omega
  have HP:=qh (show EndsPost w b=fun e w'=>e=.returned (.tuple #[secV (List.replicate 8 0),secV (List.replicate 8 0),.bool false])∧Same w w' from by funext e w';unfold EndsPost;rw[if_neg h1,if_neg h1,decide_eq_false h1])
  rw[HP.out]
  clear h h1 hn hat HP
  go_enter Tryz.func122,Tryz.ntmps122
  go_wp2_with fail
  refine bodyPost_ret (results_ends rfl _ _ w.heap.size (w.heap.size+1) _ _ _ _ _ rfl (Blk.alloc (Blk.new _ _ _) _) rfl (Blk.new' _ _ _ (by simp)) Tryz.underlying178 rfl (by kernel_rfl) (by kernel_rfl)) rfl ?_
  exact⟨rfl,((Kept.refl _ _).alloc _).alloc _⟩
end
section
open Go.RowKit Go.Sort Go.Shelf
theorem eq_st(w:World)(b0 b1 b2 b3 b4 b5 b6 b7 d0 d1 d2 d3 d4 d5 d6 d7:Nat):
 (Op.equalIn 10000 178 (.agg #[.int .u8 (b0:Nat),.int .u8 (b1:Nat),.int .u8 (b2:Nat),.int .u8 (b3:Nat),.int .u8 (b4:Nat),.int .u8 (b5:Nat),.int .u8 (b6:Nat),.int .u8 (b7:Nat)]) (.agg #[.int .u8 (d0:Nat),.int .u8 (d1:Nat),.int .u8 (d2:Nat),.int .u8 (d3:Nat),.int .u8 (d4:Nat),.int .u8 (d5:Nat),.int .u8 (d6:Nat),.int .u8 (d7:Nat)])).run Tryz.prog w=.ok (decide ([b0,b1,b2,b3,b4,b5,b6,b7]=[d0,d1,d2,d3,d4,d5,d6,d7])) w:=by
 show(Op.equalIn (9999+1) _ _ _).run _ _=_
 rw[Op.equalIn]
 simp only[Sem.run_bind,run_underlying Tryz.underlying178,Result.andThen_ok]
 simp[Tryz.sizeOf5,go_sem]
 rw[show List.range' 0 8=[0,1,2,3,4,5,6,7]from rfl]
 have hi:=fun w=>Tryz.isAgg5 w
 have he:=fun(w:World) (a b:Nat)=>run_equalIn_int (P:=Tryz.prog) w 9998 5 .u8 .u8 (a:Int) (b:Int) Tryz.underlying5
 by_cases e0:b0=d0
 ·by_cases e1:b1=d1
  ·by_cases e2:b2=d2
   ·by_cases e3:b3=d3
    ·by_cases e4:b4=d4
     ·by_cases e5:b5=d5
      ·by_cases e6:b6=d6
       ·by_cases e7:b7=d7
        ·(simp[hi,he,e0,e1,e2,e3,e4,e5,e6,e7,go_sem];try omega)
        ·(simp[hi,he,e0,e1,e2,e3,e4,e5,e6,e7,go_sem];try omega)
       ·(simp[hi,he,e0,e1,e2,e3,e4,e5,e6,go_sem];try omega)
      ·(simp[hi,he,e0,e1,e2,e3,e4,e5,go_sem];try omega)
     ·(simp[hi,he,e0,e1,e2,e3,e4,go_sem];try omega)
    ·(simp[hi,he,e0,e1,e2,e3,go_sem];try omega)
   ·(simp[hi,he,e0,e1,e2,go_sem];try omega)
  ·(simp[hi,he,e0,e1,go_sem];try omega)
 ·(simp[hi,he,e0,go_sem];try omega)
end
section
open Go.RowKit Go.Sort Go.Shelf
theorem frontS_len{b:List Nat}(h:b.length=256):(frontS b).length=8:=by unfold frontS;rw[List.length_take];omega
theorem backS_len{b:List Nat}(h:b.length=256):(backS b).length=8:=by unfold backS;rw[List.length_drop];omega
theorem frontS_bts{b:List Nat}(h:Bts b):Bts (frontS b):=h.take _
theorem backS_bts{b:List Nat}(h:Bts b):Bts (backS b):=h.drop _
theorem sn_stamp(a:Option Addr)(n c:Nat)(b:List Nat)(hn:n=b.length)(hc:n≤c)(hb:Bts b)(w:World)(hat:NatsAt w .u8 a b):
 Calls Tryz.prog 132 #[.slice a n c] w fun e w'=>e=.returned (.tuple #[.int .i64 (((stampE b).getD 0:Nat):Int),.bool (stampE b).isSome])∧Same w w':=by
 have EN:=qh (sn_ends a n c b hn hc w hat)
 by_cases h:b.length=256
 ·have EN2:=qh (EN.out.mono (R':=fun e w'=>e=.returned (.tuple #[secV (frontS b),secV (backS b),.bool true])∧Same w w') (fun e w' q=>by unfold EndsPost at q;rw[if_pos h,if_pos h,decide_eq_true h]at q;exact q))
  have GE:=qh (fun w'=>sn_gen (frontS b) (frontS_len h) (frontS_bts hb) w')
  obtain⟨G,hG⟩:∃G,genS (frontS b)=G:=⟨_,rfl⟩
  have HS:=qh (show stampE b=if frontS b=backS b∧1≤G then some G else none from by unfold stampE;rw[hG];simp[h])
  rw[hG]at GE
  obtain⟨b0,b1,b2,b3,b4,b5,b6,b7,e8⟩:=list8 (frontS_len h)
  obtain⟨d0,d1,d2,d3,d4,d5,d6,d7,e9⟩:=list8 (backS_len h)
  rw[e8,e9]at HS EN2
  rw[e8]at GE
  obtain⟨r,hr⟩:∃r,stampE b=r:=⟨_,rfl⟩
  rw[hr]at HS ⊢
  have EQ:=fun w'=>eq_st w' b0 b1 b2 b3 b4 b5 b6 b7 d0 d1 d2 d3 d4 d5 d6 d7
  obtain⟨q,hq⟩:∃q,decide ([b0,b1,b2,b3,b4,b5,b6,b7]=[d0,d1,d2,d3,d4,d5,d6,d7])=q:=⟨_,rfl⟩
  rw[hq]at EQ
  have HQ:=qh (show r=if q=true∧1≤G then some G else none from by rw[HS.out,←hq];simp only[decide_eq_true_eq])
  clear EN hG e8 e9 h hn hb hat HS hr hq
  simp only[secV,encB,List.map_cons,List.map_nil]at EN2 GE
  go_enter Tryz.func132,Tryz.ntmps132
  go_wp2_with fail
  with_reducible refine EN2.out.mono ?_
  rintro e w4 ⟨rfl,k4⟩
  have K4:=qh k4
  clear k4 EN2
  cases q
  ·have HS:=qh (show r=none from by rw[HQ.out,if_neg (fun z=>by cases z.1)])
   have K5:=qh ((K4.out.alloc (.cells #[.int .u8 (b0:Nat),.int .u8 (b1:Nat),.int .u8 (b2:Nat),.int .u8 (b3:Nat),.int .u8 (b4:Nat),.int .u8 (b5:Nat),.int .u8 (b6:Nat),.int .u8 (b7:Nat)] 178)).alloc (.cells #[.int .u8 (d0:Nat),.int .u8 (d1:Nat),.int .u8 (d2:Nat),.int .u8 (d3:Nat),.int .u8 (d4:Nat),.int .u8 (d5:Nat),.int .u8 (d6:Nat),.int .u8 (d7:Nat)] 178))
   clear HQ GE
   go_wp2_with fail
   (try simp only[Exit.inBlock,Exit.then])
   refine bodyPost_ret (results_tmp2 rfl _ _ _) rfl ?_
   exact⟨by rw[HS.out];rfl,K5.out⟩
  ·go_upto_region 2 with fail
   obtain⟨y,hy⟩:∃y,w4.heap.size=y:=⟨_,rfl⟩
   rw[hy]
   refine cutWl (fun wn=>Fr wn [(y,#[.int .u8 (b0:Nat),.int .u8 (b1:Nat),.int .u8 (b2:Nat),.int .u8 (b3:Nat),.int .u8 (b4:Nat),.int .u8 (b5:Nat),.int .u8 (b6:Nat),.int .u8 (b7:Nat)],178),(y+1,#[.int .u8 (d0:Nat),.int .u8 (d1:Nat),.int .u8 (d2:Nat),.int .u8 (d3:Nat),.int .u8 (d4:Nat),.int .u8 (d5:Nat),.int .u8 (d6:Nat),.int .u8 (d7:Nat)],178)]∧Same w wn) ⟨⟨(Blk.new' _ _ _ hy.symm).alloc _,Blk.new' _ _ _ (by simp[hy]),trivial⟩,(K4.out.alloc _).alloc _⟩ ?_
   rintro w5 ⟨hf5,k5⟩
   have F5:=qh hf5
   have K5:=qh k5
   clear hf5 k5 hy K4
   have p0:=cell_blk F5.out.1
   have p1:=cell_blk F5.out.2.1
   go_wp2_with fail
   with_reducible refine(GE.out _).mono ?_
   rintro e w6 ⟨rfl,k6⟩
   have F6:=qh (F5.out.same k6)
   have K6:=qh (K5.out.trans k6)
   clear k6 p0 p1 F5 K5
   have p0:=cell_blk F6.out.1
   by_cases hG:1≤G
   ·have HS:=qh (show r=some G from by rw[HQ.out];simp[hG])
    have g1:¬(G:Int)<1:=by omega
    clear HQ hG
    go_wp2_with fail
    with_reducible refine(GE.out _).mono ?_
    rintro e w7 ⟨rfl,k7⟩
    have K5:=qh (K6.out.trans k7)
    clear k7
    go_wp2_with fail
    (try simp only[Exit.inBlock,Exit.then])
    refine bodyPost_ret (results_tmp2 rfl _ _ _) rfl ?_
    exact⟨by rw[HS.out];rfl,K5.out⟩
   ·have HS:=qh (show r=none from by rw[HQ.out];simp;omega)
    have g1:(G:Int)<1:=by omega
    have K5:=K6
    clear HQ hG
    go_wp2_with fail
    (try simp only[Exit.inBlock,Exit.then])
    refine bodyPost_ret (results_tmp2 rfl _ _ _) rfl ?_
    exact⟨by rw[HS.out];rfl,K5.out⟩
 ·have EN2:=qh (EN.out.mono (R':=fun e w'=>e=.returned (.tuple #[secV (List.replicate 8 0),secV (List.replicate 8 0),.bool false])∧Same w w') (fun e w' q=>by unfold EndsPost at q;rw[if_neg h,if_neg h,decide_eq_false h]at q;exact q))
  have HS:=qh (show stampE b=none from by unfold stampE;rw[if_neg (fun z=>h z.1)])
  clear EN h hn hb hat
  rw[show secV (List.replicate 8 0)=.agg #[.int .u8 0,.int .u8 0,.int .u8 0,.int .u8 0,.int .u8 0,.int .u8 0,.int .u8 0,.int .u8 0]from rfl]at EN2
  go_enter Tryz.func132,Tryz.ntmps132
  go_wp2_with fail
  with_reducible refine EN2.out.mono ?_
  rintro e w4 ⟨rfl,k4⟩
  have K5:=qh ((k4.alloc (.cells #[.int .u8 0,.int .u8 0,.int .u8 0,.int .u8 0,.int .u8 0,.int .u8 0,.int .u8 0,.int .u8 0] 178)).alloc (.cells #[.int .u8 0,.int .u8 0,.int .u8 0,.int .u8 0,.int .u8 0,.int .u8 0,.int .u8 0,.int .u8 0] 178))
  clear k4 EN2
  go_wp2_with fail
  (try simp only[Exit.inBlock,Exit.then])
  refine bodyPost_ret (results_tmp2 rfl _ _ _) rfl ?_
  exact⟨by rw[HS.out];rfl,K5.out⟩
end
section
open Go.RowKit Go.Sort Go.Shelf
theorem rows_at{w:World}{a:Option Addr}{bs:List (List Nat)}(h:RowsAt w a bs){i:Nat}(hi:i<bs.length):
 ∃bk off ra rn rc,a=some ⟨bk,off,none⟩∧bk<w.heap.size∧rn=bs[i].length∧rn≤rc∧∀w',Same w w'→w'.cell? ⟨bk,off+i,none⟩=some (.slice ra rn rc)∧NatsAt w' .u8 ra bs[i]:=by
 obtain⟨rs,h1,h2,h3⟩:=h
 have hir:i<rs.length:=by omega
 obtain⟨bk,off,rfl,hb⟩:=h1.there (fun e=>by rw[e]at hir;simp at hir)
 have ok:=h3 i rs[i] bs[i] (List.getElem?_eq_getElem hir) (List.getElem?_eq_getElem hi)
 refine⟨bk,off,rs[i].1,rs[i].2.1,rs[i].2.2,rfl,hb,ok.len,ok.cap,fun w' k=>⟨?_,ok.at_.same k⟩⟩
 have:=(h1.same k).get (List.getElem?_eq_getElem hir) 0 (u:=.slice rs[i].1 rs[i].2.1 rs[i].2.2) rfl
 rw[show rowE.n=1 from rfl,Nat.mul_one,Nat.add_zero]at this
 exact this
theorem RowsAt.same{w w':World}{a:Option Addr}{bs:List (List Nat)}(h:RowsAt w a bs)(k:Same w w'):RowsAt w' a bs:=by
 obtain⟨rs,h1,h2,h3⟩:=h
 exact⟨rs,h1.same k,h2,fun i r b hr hb=>(h3 i r b hr hb).same k⟩
theorem seenSl_take{bs:List (List Nat)}{i:Nat}(hi:i<bs.length):seenSl (bs.take (i+1))=seen1 (seenSl (bs.take i)) bs[i]:=by
 rw[←List.take_append_getElem hi]
 unfold seenSl
 rw[List.foldl_append]
 rfl
theorem sn_seen(a:Option Addr)(n c:Nat)(bs:List (List Nat))(hn:n=bs.length)(hl:n≤1000)(hb:∀b∈bs,Bts b)(w:World)(hat:RowsAt w a bs):
 Calls Tryz.prog 77 #[.slice a n c] w fun e w'=>e=.returned (.int .i64 ((seenSl bs:Nat):Int))∧Same w w':=by
 have HN:=qh hn;have HAT:=qh hat;have HB:=qh hb
 clear hn hat hb
 go_enter Tryz.func77,Tryz.ntmps77
 go_wp2_with fail
 go_loopw [3,11] (fun v t wr=>∃(i:Nat),t=.int .i64 i∧i≤n∧v=.int .i64 ((seenSl (bs.take i):Nat):Int)∧Same w wr) (fun _ t _=>n - (intOf t).toNat)
 case atStart=>exact⟨0,rfl,by omega,rfl,Kept.refl _ _⟩
 case round=>
  obtain⟨i,rfl,hi,rfl,hk⟩:=hrel
  have K:=qh hk
  clear hk
  by_cases hgo:i<n
  ·have hil:i<bs.length:=by have:=HN.out;omega
   have TK:=qh (seenSl_take hil)
   have BB:=qh (HB.out bs[i] (List.getElem_mem _))
   obtain⟨bk,off,ra,rn,rc,rfl,hbk,hrn,hrc,hcc⟩:=rows_at HAT.out hil
   obtain⟨c0,hra⟩:=hcc _ K.out
   obtain⟨b,hbe⟩:∃b,bs[i]=b:=⟨_,rfl⟩
   rw[hbe]at TK BB hrn hra
   obtain⟨N,hN⟩:∃N,seenSl (bs.take i)=N:=⟨_,rfl⟩
   rw[hN]at TK ⊢
   have hN40:N≤1099511627776:=by rw[←hN];exact seenSl_le _
   have EN:=qh (sn_ends ra rn rc b hrn hrc wr hra)
   have HL:=qh hrn
   have g1:(i:Int)<(n:Int):=by omega
   have g0:(0:Int)≤(i:Int):=by omega
   clear hcc hra hrn hrc hbe hN
   by_cases h:b.length=256
   ·have EN2:=qh (EN.out.mono (R':=fun e w'=>e=.returned (.tuple #[secV (frontS b),secV (backS b),.bool true])∧Same wr w') (fun e w' q=>by unfold EndsPost at q;rw[if_pos h,if_pos h,decide_eq_true h]at q;exact q))
    have G1:=qh (fun w'=>sn_gen (frontS b) (frontS_len h) (frontS_bts BB.out) w')
    have G2:=qh (fun w'=>sn_gen (backS b) (backS_len h) (backS_bts BB.out) w')
    have hle1:=genS_le (frontS b)
    have hle2:=genS_le (backS b)
    have SE:=qh (show seen1 N b=max N (max (genS (frontS b)) (genS (backS b)))from by unfold seen1;rw[if_pos h])
    obtain⟨A,hA⟩:∃A,genS (frontS b)=A:=⟨_,rfl⟩
    obtain⟨B,hB⟩:∃B,genS (backS b)=B:=⟨_,rfl⟩
    obtain⟨b0,b1,b2,b3,b4,b5,b6,b7,e8⟩:=list8 (frontS_len h)
    obtain⟨d0,d1,d2,d3,d4,d5,d6,d7,e9⟩:=list8 (backS_len h)
    rw[e8,e9]at EN2
    rw[hA,e8]at G1
    rw[hB,e9]at G2
    rw[hA]at SE hle1
    rw[hB]at SE hle2
    clear EN h hA hB e8 e9
    simp only[secV,encB,List.map_cons,List.map_nil]at EN2 G1 G2
    go_wp2_with fail
    with_reducible refine EN2.out.mono ?_
    rintro e w4 ⟨rfl,k4⟩
    have K4:=qh (K.out.trans k4)
    clear k4 EN2
    go_upto_region 6 with fail
    obtain⟨y,hy⟩:∃y,w4.heap.size=y:=⟨_,rfl⟩
    rw[hy]
    refine cutWl (fun wn=>Fr wn [(y,#[.int .u8 (b0:Nat),.int .u8 (b1:Nat),.int .u8 (b2:Nat),.int .u8 (b3:Nat),.int .u8 (b4:Nat),.int .u8 (b5:Nat),.int .u8 (b6:Nat),.int .u8 (b7:Nat)],178),(y+1,#[.int .u8 (d0:Nat),.int .u8 (d1:Nat),.int .u8 (d2:Nat),.int .u8 (d3:Nat),.int .u8 (d4:Nat),.int .u8 (d5:Nat),.int .u8 (d6:Nat),.int .u8 (d7:Nat)],178)]∧Same w wn) ⟨⟨(Blk.new' _ _ _ hy.symm).alloc _,Blk.new' _ _ _ (by simp[hy]),trivial⟩,(K4.out.alloc _).alloc _⟩ ?_
    rintro w5 ⟨hf5,k5⟩
    have F5:=qh hf5
    have K5:=qh k5
    clear hf5 k5 hy K4 c0
    have p0:=fun dq os i=>cell_blk (F5.out.1.kept (Kept.of_below (below_regrown w5 dq os)) (fun h=>h)) i
    have p1:=fun dq os i=>cell_blk (F5.out.2.1.kept (Kept.of_below (below_regrown w5 dq os)) (fun h=>h)) i
    have C1:=qh (fun d os=>Calls.quiet_samK (G1.out (grow (redrawn w5 d) os)))
    have C2:=qh (fun d os=>Calls.quiet_samK (G2.out (grow (redrawn w5 d) os)))
    clear G1 G2
    go_wp2_with fail
    refine wp_region_quiet_below (by kernel_rfl) (by kernel_rfl) ?_
    repeat(first|go_big_quiet_step (with_reducible first|exact C1.out _ _|exact C2.out _ _)|quiet_step (with_reducible first|exact C1.out _ _|exact C2.out _ _))
    refine wpQuiet_nil ?_
    intro _ hw'
    obtain⟨⟨dq,osq⟩,hw''⟩:=hw'
    subst hw''
    have kq:=qh (show Same w5 _ from Kept.of_below (below_regrown w5 dq osq))
    have KQ:=qh (K5.out.trans kq.out)
    clear kq
    go_wp2_with fail
    go_roundw
    case rel=>exact⟨i+1,by go_num,by omega,by rw[TK.out,SE.out];congr 1;omega,KQ.out⟩
    case measure=>simp[intOf];omega
   ·have EN2:=qh (EN.out.mono (R':=fun e w'=>e=.returned (.tuple #[secV (List.replicate 8 0),secV (List.replicate 8 0),.bool false])∧Same wr w') (fun e w' q=>by unfold EndsPost at q;rw[if_neg h,if_neg h,decide_eq_false h]at q;exact q))
    have SE:=qh (show seen1 N b=N from by unfold seen1;rw[if_neg h])
    clear EN h
    rw[show secV (List.replicate 8 0)=.agg #[.int .u8 0,.int .u8 0,.int .u8 0,.int .u8 0,.int .u8 0,.int .u8 0,.int .u8 0,.int .u8 0]from rfl]at EN2
    go_wp2_with fail
    with_reducible refine EN2.out.mono ?_
    rintro e w4 ⟨rfl,k4⟩
    have K5:=qh (((K.out.trans k4).alloc (.cells #[.int .u8 0,.int .u8 0,.int .u8 0,.int .u8 0,.int .u8 0,.int .u8 0,.int .u8 0,.int .u8 0] 178)).alloc (.cells #[.int .u8 0,.int .u8 0,.int .u8 0,.int .u8 0,.int .u8 0,.int .u8 0,.int .u8 0,.int .u8 0] 178))
    clear k4 EN2
    go_wp2_with fail
    go_roundw
    case rel=>exact⟨i+1,by go_num,by omega,by rw[TK.out,SE.out],K5.out⟩
    case measure=>simp[intOf];omega
  ·have hin:i=n:=by omega
   have g1:¬(i:Int)<(n:Int):=by omega
   have e1:bs.take i=bs:=List.take_of_length_le (by have:=HN.out;omega)
   rw[e1]
   go_wp2_with fail
   go_ret
   exact⟨rfl,K.out⟩
end
section
open Go.RowKit Go.Sort Go.Shelf
theorem u8Info:(Tryz.prog.info? 5).map (fun i=>(i.zero,i.size,i.bytes))=some (some (.int .u8 0),1,1):=by kernel_rfl
theorem nats_addr{w:World}{a:Addr}{xs:List Nat}(h:NatsAt w .u8 (some a) xs):∀(j:Nat) (u:Value),(xs.map fun x:Nat=>Value.int .u8 ((x:Nat):Int))[j]? =some u→w.cell? (a.add j)=some u:=by
 intro j u hu
 rw[List.getElem?_map]at hu
 obtain⟨x,hx,rfl⟩:=Option.map_eq_some_iff.1 hu
 rcases h with h0|⟨b,off,e,_,hc⟩
 ·rw[h0]at hx;cases hx
 ·cases e
  have:=hc j x hx
  unfold Addr.add
  split
  ·subst j;simpa using this
  ·exact this
theorem run_appendG(w:World)(ty:TypeId)(b:Addr)(n cap:Nat)(xs:List Nat)(hn:n=xs.length)(hx:NatsAt w .u8 (some b) xs)(a:Addr)(m c:Nat)(ys:List Nat)(hm:m=ys.length)(hy:NatsAt w .u8 (some a) ys)(hg:cap<n+m)(hl:n+m≤100000):
 ∃v' w',(Builtin.append_ #[32,32] ty #[.slice (some b) n cap,.slice (some a) m c]).run Tryz.prog w=.ok v' w'∧OwnN w' w.heap.size 5 .u8 v' (xs++ys)∧Same w w':=by
 obtain⟨i,hi,hz,hsz,hby⟩:=info_parts u8Info
 subst hn hm
 obtain⟨v',w',h1,h2,h3⟩:=run_append_arg_grows (P:=Tryz.prog) w 32 ty 5 i (.int .u8 0) 1 1 Tryz.underlying32 hi hz hsz hby rfl (by decide) b xs.length cap (xs.map fun x:Nat=>Value.int .u8 ((x:Nat):Int)) (by simp) (nats_addr hx) a ys.length c (ys.map fun x:Nat=>Value.int .u8 ((x:Nat):Int)) (by simp) (nats_addr hy) hg (by unfold maxLen;omega) (by omega)
 refine⟨v',w',h1,?_,⟨h3.os,h3.tape,h3.output,h3.size,fun k hk _=>h3.block k hk (by simp)⟩⟩
 unfold OwnN
 rw[List.length_append,List.map_append]
 exact h2
theorem OwnN.begins{w:World}{base:Nat}{e:TypeId}{k:IntKind}{v:Value}{xs:List Nat}(h:OwnN w base e k v xs)(hx:xs≠[]):∃g c,v=.slice (some ⟨g,0,none⟩) xs.length c∧base≤g∧g<w.heap.size∧xs.length≤c∧NatsAt w k (some ⟨g,0,none⟩) xs:=by
 have h0:=h
 rcases h.2 with⟨rfl,h1⟩|⟨g,cap,cur,rfl,h1,h2,h3,h4,h5,h6⟩
 ·exact absurd (List.eq_nil_of_length_eq_zero h1) hx
 ·exact⟨g,cap,rfl,h1,lt_of_block h2,h3,h0.nats⟩
theorem RowsOwn.base{w:World}{base base':Nat}{v:Value}{bs:List (List Nat)}(h:RowsOwn w base v bs)(hb:base'≤base):RowsOwn w base' v bs:=by
 obtain⟨rs,h1,h2,h3⟩:=h
 exact⟨rs,h1.rebase hb,h2,fun i r b hr hx=>⟨(h3 i r b hr hx).1,fun y hy=>⟨Nat.le_trans hb ((h3 i r b hr hx).2 y hy).1,((h3 i r b hr hx).2 y hy).2⟩⟩⟩
theorem RowsOwn.below{w:World}{base:Nat}{v:Value}{bs:List (List Nat)}(h:RowsOwn w base v bs){g:Nat}(hg:w.heap.size≤g):v.ownBlock≠some g:=by
 obtain⟨rs,h1, -, -⟩:=h
 intro q
 have:=(h1.far g q).2
 omega
def SputPost(w:World)(g:Int)(b:List Nat)(e:Ending)(w':World):Prop:=(∃v,e=.returned (.tuple #[v,.int .i64 ((putSlE g b.length:Nat):Int)])∧RowsOwn w' w.heap.size v (if putSlE g b.length=0 then putSl g.toNat b else []))∧Same w w'
theorem put_steps(x y n:Nat):((List.replicate (2+n) 0).set 0 x).set 1 y=[x,y]++List.replicate n 0:=by
 rw[←List.replicate_append_replicate]
 rfl
theorem put_copy(b:List Nat)(x y n:Nat):([x,y]++List.replicate n 0).take 2++b++([x,y]++List.replicate n 0).drop (2+b.length)=x::y::(b++List.replicate (n - b.length) 0):=by
 rw[List.take_append_of_le_length (by simp),List.drop_append]
 simp[List.drop_replicate]
section
attribute [local go_sem ↓] exec_cpy semAt_cpy exec_app semAt_app
attribute [local go_sem] isCpy_lit isApp_lit appA appX
theorem sn_put_ok(G:Nat)(hG1:1≤G)(hG:G≤1099511627776)(a:Option Addr)(c:Nat)(b:List Nat)(hl:b.length≤954)(hb:Bts b)(w:World)(hat:NatsAt w .u8 a b)(SP:Ending→World→Prop)
 (hfin:∀W v,Same w W→RowsOwn W w.heap.size v (putSl G b)→SP (.returned (.tuple #[v,.int .i64 0])) W):
 Calls Tryz.prog 74 #[.int .i64 (G:Nat),.slice a b.length c] w SP:=by
 obtain⟨i0,hi,hz0,hz1,hz2⟩:=info_parts u8Info
 obtain⟨w1,hrun,hown,hgr⟩:=run_make_full (P:=Tryz.prog) w w.heap.size 32 5 i0 (.int .u8 0) 1 Tryz.underlying32 hi hz0 hz1 .i64 .i64 956 (by rw[hz2];decide) (by decide) (Nat.le_refl _)
 have ho:=OwnN.made hown
 have hmk:(Instr.makeSlice 32 (.int .i64 956) (.int .i64 956)).run Tryz.prog w=.ok (.slice (some ⟨w.heap.size,0,none⟩) 956 956) w1:=hrun
 have K1:Same w w1:=⟨hgr.os,hgr.tape,hgr.output,hgr.size,fun k hk _=>hgr.block k hk (by simp)⟩
 have c0:=ho.cell (j:=0) (x:=0) List.length_replicate (by rw[List.getElem?_replicate];simp)
 have c1:=ho.cell (j:=1) (x:=0) List.length_replicate (by rw[List.getElem?_replicate];simp)
 have f0:=fun i=>ho.free List.length_replicate i
 have e4:(b.length:Int) / 256=((b.length / 256:Nat):Int):=by omega
 have e5:(b.length:Int) % 256=((b.length % 256:Nat):Int):=by omega
 have o5:OwnN ((w1.setCell ⟨w.heap.size,0,none⟩ (.int .u8 ((b.length:Int) / 256))).setCell ⟨w.heap.size,1,none⟩ (.int .u8 ((b.length:Int) % 256))) w.heap.size 5 .u8 (.slice (some ⟨w.heap.size,0,none⟩) 956 956) ([b.length / 256,b.length % 256]++List.replicate 954 0):=by
  rw[e4,e5,←put_steps]
  exact(ho.set List.length_replicate 0 _).set (by rw[List.length_set];exact List.length_replicate) 1 _
 have k5:Kept (fun j=>j=w.heap.size) w1 ((w1.setCell ⟨w.heap.size,0,none⟩ (.int .u8 ((b.length:Int) / 256))).setCell ⟨w.heap.size,1,none⟩ (.int .u8 ((b.length:Int) % 256))):=((Kept.refl _ _).setG _ _).setG _ _
 have K5:Same w ((w1.setCell ⟨w.heap.size,0,none⟩ (.int .u8 ((b.length:Int) / 256))).setCell ⟨w.heap.size,1,none⟩ (.int .u8 ((b.length:Int) % 256))):=K1.step k5 (fun i hi q=>by omega)
 obtain⟨w3,hcp,o3,k3⟩:=run_copyN (P:=Tryz.prog) _ 32 32 3 5 .u8 Tryz.underlying32 (by kernel_rfl) w.heap.size w.heap.size 2 956 956 954 954 _ o5 (by simp) a b.length c b rfl (hat.same K5) (by omega) hl
 rw[put_copy]at o3
 obtain⟨aok,aV,aW⟩:=cpy_of hcp
 have K3:=qh (K5.step k3 (fun i hi q=>by omega))
 have O3:=qh (show OwnN w3 w.heap.size 5 .u8 (.slice (some ⟨w.heap.size,0,none⟩) 956 956) (bodyAll b)from o3)
 have hgl:=(ho.lt).2
 have HF:=qh hfin
 have HGG:=qh (show 1≤G∧G≤1099511627776 from⟨hG1,hG⟩)
 have g1:¬(G:Int)<1:=by omega
 have g2:¬(1099511627776:Int)<(G:Int):=by omega
 have g3:¬(954:Int)<(b.length:Int):=by omega
 have HL:=qh hl
 have HBB:=qh hb
 clear hi hz0 hz1 hz2 hgr hown ho hrun hcp o3 k3 o5 k5 K5 K1 e4 e5 hfin hG1 hG hat hl hb
 go_enter Tryz.func74,Tryz.ntmps74
 go_wp2_with fail
 with_reducible refine(sn_of G (by have:=HGG.out;omega) w3).mono ?_
 rintro e w4 ⟨rfl,k4⟩
 obtain⟨b0,b1,b2,b3,b4,b5,b6,b7,e8⟩:=list8 (stmp_len G)
 have E8:=qh e8
 rw[e8]
 have K4:=qh (K3.out.trans k4)
 have O4:=qh (O3.out.same k4)
 clear k4 K3 O3 e8 aok aV aW c0 c1 f0 hmk
 simp only[secV,encB,List.map_cons,List.map_nil]
 go_upto_region 9 with fail
 obtain⟨y,hy⟩:∃y,w4.heap.size=y:=⟨_,rfl⟩
 obtain⟨ga,hga⟩:∃ga,w.heap.size=ga:=⟨_,rfl⟩
 rw[hy,hga]
 refine cutWl (fun wn=>Blk wn y #[.int .u8 (b0:Nat),.int .u8 (b1:Nat),.int .u8 (b2:Nat),.int .u8 (b3:Nat),.int .u8 (b4:Nat),.int .u8 (b5:Nat),.int .u8 (b6:Nat),.int .u8 (b7:Nat)] 178∧OwnN wn ga 5 .u8 (.slice (some ⟨ga,0,none⟩) 956 956) (bodyAll b)∧Same w wn) ⟨Blk.new' _ _ _ hy.symm,by have:=O4.out.same ((Kept.refl _ w4).alloc (.cells #[.int .u8 (b0:Nat),.int .u8 (b1:Nat),.int .u8 (b2:Nat),.int .u8 (b3:Nat),.int .u8 (b4:Nat),.int .u8 (b5:Nat),.int .u8 (b6:Nat),.int .u8 (b7:Nat)] 178));rw[hga]at this;exact this,K4.out.alloc _⟩ ?_
 rintro w7 ⟨hb7,ho7,k7⟩
 have SB:=qh (show NatsAt w7 .u8 (some ⟨y,0,none⟩) (stmp G)from by
  rw[E8.out]
  refine .inr ⟨y,0,rfl,hb7.lt,fun i x hx=>?_⟩
  rw[Nat.zero_add,cell_blk hb7 i]
  have h1:=congrArg (Option.map fun z:Nat=>Value.int .u8 (z:Nat)) hx
  rw[←List.getElem?_map]at h1
  rw[←Array.getElem?_toList]
  exact h1)
 have YL:=qh hb7.lt
 have AB:=qh ho7.nats
 have GL:=qh (ho7.lt).2
 have K7:=qh k7
 have HGA:=qh hga
 clear hb7 ho7 k7 O4 K4 E8 hy hga
 go_wp2_with fail
 go_loopw [8,40] (fun v t wr=>∃(i:Nat),t=.int .i64 i∧i≤4∧RowsOwn wr w7.heap.size v ((List.range i).map (slotSec G b))∧Kept (fun j=>w7.heap.size≤j) w7 wr) (fun _ t _=>4 - (intOf t).toNat)
 case atStart=>exact⟨0,rfl,by omega,RowsOwn.nil _ _,Kept.refl _ _⟩
 case round=>
  obtain⟨i,rfl,hi,hr,hk⟩:=hrel
  have K:=qh hk
  have R:=qh hr
  have hsz:=hk.size
  clear hk hr
  by_cases hgo:i<4
  ·
   have hgi:(i:Int)<4:=by omega
   have hyl:=YL.out
   have hgal:=GL.out
   have kA:Same wr (wr.alloc (.cells #[.int .u8 (i:Nat)] 5)):=(Kept.refl _ wr).alloc _
   have sA:NatsAt (wr.alloc (.cells #[.int .u8 (i:Nat)] 5)) .u8 (some ⟨y,0,none⟩) (stmp G):=(SB.out.kept K.out (fun x hx=>by cases hx;dsimp only;omega)).same kA
   have oneA:NatsAt (wr.alloc (.cells #[.int .u8 (i:Nat)] 5)) .u8 (some ⟨wr.heap.size,0,none⟩) [i]:=.inr ⟨wr.heap.size,0,rfl,by simp,fun j x hx=>by
    have hj:j=0:=by
     rcases Nat.eq_zero_or_pos j with q|q
     ·exact q
     ·rw[List.getElem?_eq_none (by simp;omega)]at hx;cases hx
    subst hj
    simp at hx
    subst hx
    exact cell_blk (Blk.new wr _ _) 0⟩
   obtain⟨v1,x1,hr1,o1,k1⟩:=run_appendG (wr.alloc (.cells #[.int .u8 (i:Nat)] 5)) 32 ⟨y,0,none⟩ 8 8 (stmp G) (stmp_len G).symm sA ⟨wr.heap.size,0,none⟩ 1 1 [i] rfl oneA (by omega) (by omega)
   have kw1:Same wr x1:=kA.trans k1
   have o1:=o1.base (show wr.heap.size≤(wr.alloc (.cells #[.int .u8 (i:Nat)] 5)).heap.size by simp)
   obtain⟨aok1,aV1,aW1⟩:=app_of hr1
   have hpl:=partSl_len HL.out (i:=i) (by omega)
   have pA:NatsAt x1 .u8 (some ⟨ga,0+i*239,none⟩) (partSl b i):=(((AB.out.kept K.out (fun x hx=>by cases hx;dsimp only;omega)).same kw1).drop (i*239)).take 239
   rw[Nat.zero_add]at pA
   obtain⟨v2,x2,hr2,o2,g2', -⟩:=run_appendN (P:=Tryz.prog) x1 32 32 wr.heap.size 5 .u8 1 Tryz.underlying32 u8Info (by decide) v1 (stmp G++[i]) o1 (some ⟨ga,i*239,none⟩) ((i+1)*239 - i*239) (956 - i*239) (partSl b i) (by rw[hpl];omega) pA (fun h=>by cases h) (by rw[List.length_append,stmp_len,hpl];simp) kw1.size
   have kw2:Same wr x2:=kw1.grown g2' (fun k hk hlt=>by have:=(World.ownsRow.lt o1 k hk).1;omega)
   obtain⟨aok2,aV2,aW2⟩:=app_of hr2
   have sB:NatsAt x2 .u8 (some ⟨y,0,none⟩) (stmp G):=(SB.out.kept K.out (fun x hx=>by cases hx;dsimp only;omega)).same kw2
   obtain⟨v3,x3,hr3,o3,g3', -⟩:=run_appendN (P:=Tryz.prog) x2 32 32 wr.heap.size 5 .u8 1 Tryz.underlying32 u8Info (by decide) v2 (stmp G++[i]++partSl b i) o2 (some ⟨y,0,none⟩) 8 8 (stmp G) (stmp_len G).symm sB (fun h=>by cases h) (by simp[stmp_len,hpl]) kw2.size
   have kw3:Same wr x3:=kw2.grown g3' (fun k hk hlt=>by have:=(World.ownsRow.lt o2 k hk).1;omega)
   obtain⟨aok3,aV3,aW3⟩:=app_of hr3
   obtain⟨g9,c9,hv9,hg9,hg9l,hc9,hn9⟩:=o3.begins (by simp)
   have h256:(stmp G++[i]++partSl b i++stmp G).length=256:=slotSec_len HL.out G (by omega)
   rw[h256]at hv9 hc9
   subst hv9
   obtain⟨v',w',hr4,ho4,hk4⟩:=rows_append (R.out.same kw3) (by have:=kw3.size;omega) (by simp;omega) g9 256 c9 (slotSec G b i) h256.symm hc9 (by omega) hg9l (R.out.below hg9) hn9
   obtain⟨aok4,aV4,aW4⟩:=app_of hr4
   have KF:=qh ((K.out.trans (kw3.mono (fun _ _ q=>q.elim))).trans hk4)
   have RF:=qh (show RowsOwn w' w7.heap.size v' ((List.range (i+1)).map (slotSec G b))from by rw[List.range_succ,List.map_append];exact ho4)
   clear hr1 hr2 hr3 hr4 o1 o2 o3 g2' g3' kw1 kw2 kw3 k1 kA sA sB pA oneA hn9 ho4 hk4 hpl
   go_wp2_with fail
   exact⟨⟨i+1,by go_num,by omega,RF.out,KF.out⟩,by simp[intOf];omega⟩
  ·have h4:i=4:=by omega
   subst h4
   have FI:=qh (fun(q:RowsOwn wr w7.heap.size u8 (putSl G b))=>HF.out wr u8 (K7.out.step K.out (fun j hj z=>by have:=K7.out.size;omega)) (q.base (K7.out.size)))
   clear hi hgo
   go_wp2_with fail
   exact FI.out R.out
end
theorem sn_put(g:Int)(a:Option Addr)(n c:Nat)(b:List Nat)(hn:n=b.length)(hb:Bts b)(w:World)(hat:NatsAt w .u8 a b):
 Calls Tryz.prog 74 #[.int .i64 g,.slice a n c] w (SputPost w g b):=by
 obtain⟨SP,hSP⟩:∃SP,SputPost w g b=SP:=⟨_,rfl⟩
 rw[hSP]
 have HSP:=qh hSP
 clear hSP
 by_cases h1:g<1∨1099511627776<g
 ·have FIN:=qh (fun W (k:Same w W)=>show SP (.returned (.tuple #[.slice none 0 0,.int .i64 9])) W from by
   rw[←HSP.out]
   have e1:putSlE g b.length=9:=by unfold putSlE;rw[if_pos h1]
   unfold SputPost
   rw[e1]
   exact⟨⟨_,rfl,RowsOwn.nil _ _⟩,k⟩)
  clear hn hb hat
  rcases h1 with h1|h1
  ·go_enter Tryz.func74,Tryz.ntmps74
   go_wp2_with fail
   exact FIN.out _ (Kept.refl _ _)
  ·have g1:¬g<1:=by omega
   go_enter Tryz.func74,Tryz.ntmps74
   go_wp2_with fail
   exact FIN.out _ (Kept.refl _ _)
 ·have g1:¬g<1:=by omega
  have g2:¬1099511627776<g:=by omega
  by_cases h2:954<n
  ·have FIN:=qh (fun W (k:Same w W)=>show SP (.returned (.tuple #[.slice none 0 0,.int .i64 5])) W from by
    rw[←HSP.out]
    have e1:putSlE g b.length=5:=by unfold putSlE;rw[if_neg h1,if_pos (by omega)]
    unfold SputPost
    rw[e1]
    exact⟨⟨_,rfl,RowsOwn.nil _ _⟩,k⟩)
   have g3:(954:Int)<(n:Int):=by omega
   clear hn hb hat h1 h2
   go_enter Tryz.func74,Tryz.ntmps74
   go_wp2_with fail
   exact FIN.out _ (Kept.refl _ _)
  ·have FIN:=qh (fun W v (k:Same w W) (hr:RowsOwn W w.heap.size v (putSl g.toNat b))=>show SP (.returned (.tuple #[v,.int .i64 0])) W from by
    rw[←HSP.out]
    have e1:putSlE g b.length=0:=by unfold putSlE;rw[if_neg h1,if_neg (by omega)]
    unfold SputPost
    rw[e1,if_pos rfl]
    exact⟨⟨_,rfl,hr⟩,k⟩)
   obtain⟨G,rfl⟩:∃G:Nat,g=(G:Int):=⟨g.toNat,by omega⟩
   rw[Int.toNat_natCast]at FIN
   have hG:G≤1099511627776:=by omega
   have hn954:n≤954:=by omega
   have g3:¬(954:Int)<(n:Int):=by omega
   subst hn
   exact sn_put_ok G (by omega) hG a c b hn954 hb w hat SP (fun W v k hr=>FIN.out W v k hr)
end
section
open Go.RowKit Go.Sort Go.Shelf
def SgetPost(w:World)(bs:List (List Nat))(e:Ending)(w':World):Prop:=(∃ra rc,e=.returned (.tuple #[.int .i64 (((getSl bs).1:Nat):Int),.slice ra (getSl bs).2.1.length rc,.int .i64 (((getSl bs).2.2:Nat):Int)])∧NatsAt w' .u8 ra (getSl bs).2.1∧(getSl bs).2.1.length≤rc∧(ra=none→(getSl bs).2.1=[]))∧Same w w'
theorem stampE_len{b:List Nat}{g:Nat}(h:stampE b=some g):b.length=256∧1≤g∧g≤1099511627776:=by
 unfold stampE at h
 split at h
 ·rename_i q
  cases h
  exact⟨q.1,q.2.2,genS_le _⟩
 ·cases h
theorem allSl_take{bs:List (List Nat)}{i:Nat}(hi:i<bs.length):allSl (bs.take (i+1))=allSl (bs.take i)++(bs[i].drop 9).take 239:=by
 have h:bs.take (i+1)=bs.take i++[bs[i]]:=(List.take_append_getElem hi).symm
 unfold allSl
 rw[h,List.flatMap_append]
 simp
theorem okSl_false{bs:List (List Nat)}{i:Nat}(hi:i<bs.length)(h:stampE bs[i]≠some (genSl bs)):okSl bs=false:=by
 unfold okSl
 rw[List.all_eq_false]
 exact⟨bs[i],List.getElem_mem _,by simpa using h⟩
theorem okSl_true{bs:List (List Nat)}(h:∀(i:Nat) (hi:i<bs.length),stampE bs[i]=some (genSl bs)):okSl bs=true:=by
 unfold okSl
 rw[List.all_eq_true]
 intro b hb
 obtain⟨i,hi,rfl⟩:=List.mem_iff_getElem.1 hb
 simpa using h i hi
theorem allSl_bts{bs:List (List Nat)}(h:∀b∈bs,Bts b):Bts (allSl bs):=by
 intro x hx
 unfold allSl at hx
 obtain⟨b,hb,hx⟩:=List.mem_flatMap.1 hx
 exact((h b hb).drop _).take _ x hx
theorem putSl_bts{g:Nat}{b:List Nat}(hl:b.length≤954)(hb:Bts b):∀x∈putSl g b,Bts x:=by
 intro x hx
 unfold putSl at hx
 obtain⟨i,hi,rfl⟩:=List.mem_map.1 hx
 exact slotSec_bts hl hb g (by simpa using hi)
theorem RowsOwn.rowsAt{w:World}{base:Nat}{v:Value}{bs:List (List Nat)}(h:RowsOwn w base v bs):∃a c,v=.slice a bs.length c∧RowsAt w a bs:=by
 obtain⟨rs,h1,h2,h3⟩:=h
 obtain⟨a,l,c,rfl,hl, -,hat, -⟩:=h1.rd
 have:=hl.out
 exact⟨a,c,by rw[this,h2],rs,hat.out,h2,fun i r b hr hb=>(h3 i r b hr hb).1⟩
section
attribute [local go_sem ↓] exec_app semAt_app
attribute [local go_sem] isApp_lit appA appX
theorem sn_get(a:Option Addr)(c:Nat)(bs:List (List Nat))(h4:bs.length=4)(hb:∀b∈bs,Bts b)(w:World)(hat:RowsAt w a bs):
 Calls Tryz.prog 85 #[.slice a 4 c] w (SgetPost w bs):=by
 obtain⟨SP,hSP⟩:∃SP,SgetPost w bs=SP:=⟨_,rfl⟩
 rw[hSP]
 have F3:=qh (fun(h:okSl bs=false) W (k:Same w W)=>show SP (.returned (.tuple #[.int .i64 0,.slice none 0 0,.int .i64 3])) W from by
  rw[←hSP]
  unfold SgetPost getSl
  rw[if_pos h]
  exact⟨⟨none,0,rfl,.inl rfl,Nat.le_refl _,fun _=>rfl⟩,k⟩)
 have F4:=qh (fun(h:okSl bs=true) (h2:954<lenSl bs∨putSl (genSl bs) (bodySl bs)≠bs) W (k:Same w W)=>show SP (.returned (.tuple #[.int .i64 0,.slice none 0 0,.int .i64 4])) W from by
  rw[←hSP]
  unfold SgetPost getSl
  rw[if_neg (by rw[h];decide)]
  by_cases q:954<lenSl bs
  ·rw[if_pos q]
   exact⟨⟨none,0,rfl,.inl rfl,Nat.le_refl _,fun _=>rfl⟩,k⟩
  ·rw[if_neg q,if_neg (h2.resolve_left q)]
   exact⟨⟨none,0,rfl,.inl rfl,Nat.le_refl _,fun _=>rfl⟩,k⟩)
 have F0:=qh (fun(h:okSl bs=true) (h1:¬954<lenSl bs) (h2:putSl (genSl bs) (bodySl bs)=bs) W (k:Same w W) ra rl rc (hl:rl=(bodySl bs).length) (hn:NatsAt W .u8 ra (bodySl bs)) (hc:rl≤rc) (hnil:ra=none→bodySl bs=[])=>show SP (.returned (.tuple #[.int .i64 ((genSl bs:Nat):Int),.slice ra rl rc,.int .i64 0])) W from by
  rw[←hSP]
  subst hl
  unfold SgetPost getSl
  rw[if_neg (by rw[h];decide),if_neg h1,if_pos h2]
  exact⟨⟨ra,rc,rfl,hn,hc,hnil⟩,k⟩)
 clear hSP
 have HB:=qh hb;have HAT:=qh hat;have H4:=qh h4
 clear hb hat h4
 have hp0:0<bs.length:=by rw[H4.out];decide
 obtain⟨bk,off,ra,rn,rc,rfl,hbk,hrn,hrc,hcc⟩:=rows_at HAT.out hp0
 have hgen:genSl bs=(stampE bs[0]).getD 0:=by
  unfold genSl
  rw[List.getD_eq_getElem?_getD,List.getElem?_eq_getElem hp0]
  rfl
 have ST0:=qh (fun w' (k:Same w w')=>sn_stamp ra rn rc bs[0] hrn hrc (HB.out _ (List.getElem_mem _)) w' (hcc w' k).2)
 rw[←hgen]at ST0
 have C0:=qh (fun w' (k:Same w w')=>(hcc w' k).1)
 obtain⟨gen,hge⟩:∃gen,genSl bs=gen:=⟨_,rfl⟩
 rw[hge]at ST0 F4 F0
 have HGE:=qh hge
 have c0:=C0.out w (Kept.refl _ _)
 rw[Nat.add_zero]at c0
 clear hcc hgen hge hrn hrc
 go_enter Tryz.func85,Tryz.ntmps85
 go_wp2_with fail
 with_reducible refine(ST0.out _ (Kept.refl _ _)).mono ?_
 rintro e w1 ⟨rfl,k1⟩
 have K1:=qh k1
 clear k1 ST0 C0 c0
 go_wp2_with fail
 go_loopw [7,30] (fun v t wr=>∃(i:Nat),t=.int .i64 i∧i≤4∧OwnN wr w.heap.size 5 .u8 v (allSl (bs.take i))∧(∀(j:Nat) (hj:j<bs.length),j<i→stampE bs[j]=some gen)∧Same w wr) (fun _ t _=>4 - (intOf t).toNat)
 case atStart=>exact⟨0,rfl,by omega,World.ownsRow_nil _ _ _ _,(fun j _ h=>by omega),K1.out⟩
 case round=>
  obtain⟨i,rfl,hi,ho,hst,hk⟩:=hrel
  have K:=qh hk
  have O:=qh ho
  have HST:=qh hst
  clear hk ho hst
  by_cases hgo:i<4
  ·have hil:i<bs.length:=by rw[H4.out];exact hgo
   have AT:=qh (allSl_take hil)
   obtain⟨_,_,ra,rn,rc,q,hbk2,hrn,hrc,hcc⟩:=rows_at HAT.out hil
   cases q
   obtain⟨c0,hra⟩:=hcc _ K.out
   have BB:=qh (HB.out bs[i] (List.getElem_mem _))
   have S1:=qh (sn_stamp ra rn rc bs[i] hrn hrc BB.out wr hra)
   have OF:=qh (fun(h:stampE bs[i]≠some gen)=>okSl_false hil (by rw[HGE.out];exact h))
   have OT:=qh (fun(h:stampE bs[i]=some gen)=>show∀(j:Nat) (hj:j<bs.length),j<i+1→stampE bs[j]=some gen from fun j hj q=>by
    rcases Nat.lt_or_ge j i with z|z
    ·exact HST.out j hj z
    ·obtain rfl:j=i:=by omega
     exact h)
   have RA:=qh (fun w' (k:Same w w')=>(hcc w' k).2)
   obtain⟨b,hbe⟩:∃b,bs[i]=b:=⟨_,rfl⟩
   rw[hbe]at AT BB hrn hra S1 OF OT RA
   have HRN:=qh hrn
   have g1:(i:Int)<4:=by omega
   have g0:(0:Int)≤(i:Int):=by omega
   have HRC:=qh hrc
   clear hcc hra hbe hrn HST hrc
   obtain⟨o,hso⟩:∃o,stampE b=o:=⟨_,rfl⟩
   rw[hso]at S1 OF OT
   have HSO:=qh hso
   clear hso
   go_wp2_with fail
   with_reducible refine S1.out.mono ?_
   rintro e w2 ⟨rfl,k2⟩
   have K2:=qh (K.out.trans k2)
   have O2:=qh (O.out.same k2)
   clear k2 S1 c0 K O
   cases o with
   |none=>
    have FI:=qh (F3.out (OF.out (by simp)))
    go_wp2_with fail
    (try simp only[Exit.inBlock,Exit.then])
    refine bodyPost_ret (results_tmp3 rfl _ _ _) rfl ?_
    exact FI.out _ K2.out
   |some g=>
    by_cases hg:g=gen
    ·subst hg
     obtain⟨h256,hg1,hg2⟩:=stampE_len HSO.out
     have OT2:=qh (OT.out rfl)
     obtain⟨bk3,off3,hra3⟩:∃bk3 off3,ra=some ⟨bk3,off3,none⟩:=by
      rcases RA.out w (Kept.refl _ _)with h0|⟨x1,x2,h0,_⟩
      ·rw[h0]at h256;cases h256
      ·exact⟨x1,x2,h0⟩
     subst hra3
     have hrn2:rn=256:=by rw[HRN.out,h256]
     subst hrn2
     have nA:=((RA.out w2 K2.out).drop 9).take 239
     have hrc2:=HRC.out
     obtain⟨v',w',hr,ho',hgr, -⟩:=run_appendN (P:=Tryz.prog) w2 32 32 w.heap.size 5 .u8 1 Tryz.underlying32 u8Info (by decide) _ _ O2.out (some ⟨bk3,off3+9,none⟩) 239 (rc - 9) ((b.drop 9).take 239) (by rw[List.length_take,List.length_drop,h256];rfl) nA (fun h=>by cases h) (by
      have h1:(allSl (bs.take i)).length≤4*239:=by
       have h3:∀l:List (List Nat),(allSl l).length≤l.length*239:=by
        intro l
        unfold allSl
        induction l with
        |nil=>simp
        |cons x l ih=>rw[List.flatMap_cons,List.length_append,List.length_cons,List.length_take];omega
       have h2:=h3 (bs.take i)
       rw[List.length_take,H4.out]at h2
       omega
      rw[List.length_take]
      omega) K2.out.size
     have KF:=qh (K2.out.grown hgr (fun k hk hlt=>by have:=(World.ownsRow.lt O2.out k hk).1;omega))
     have OF2:=qh (show OwnN w' w.heap.size 5 .u8 v' (allSl (bs.take (i+1)))from by rw[AT.out];exact ho')
     obtain⟨aok,aV,aW⟩:=app_of hr
     have gc:248≤rc:=by omega
     clear hr ho' hgr nA h256 hg1 hg2
     go_wp2_with fail
     exact⟨⟨i+1,by go_num,by omega,OF2.out,OT2.out,KF.out⟩,by simp[intOf];omega⟩
    ·have FI:=qh (F3.out (OF.out (by simpa using hg)))
     have g5:¬(g:Int)=(gen:Int):=by omega
     go_wp2_with fail
     (try simp only[Exit.inBlock,Exit.then])
     refine bodyPost_ret (results_tmp3 rfl _ _ _) rfl ?_
     exact FI.out _ K2.out
  ·have hi4:i=4:=by omega
   subst hi4
   have OKS:=qh (okSl_true (bs:=bs) (fun j hj=>by rw[HGE.out];exact HST.out j hj (by rw[←H4.out];exact hj)))
   have HGR:=qh (stampE_len (HST.out 0 hp0 (by decide))).2
   rw[List.take_of_length_le (by rw[H4.out];exact Nat.le_refl _)]at O
   have hlen:(allSl bs).length=956:=by
    have h3:∀l:List (List Nat),(∀b∈l,b.length=256)→(allSl l).length=l.length*239:=by
     intro l
     unfold allSl
     induction l with
     |nil=>intro _;simp
     |cons x l ih=>intro h;rw[List.flatMap_cons,List.length_append,List.length_cons,List.length_take,List.length_drop,h x (by simp),ih (fun b hb=>h b (by simp[hb]))];omega
    rw[h3 bs (fun b hb=>by
     obtain⟨j,hj,rfl⟩:=List.mem_iff_getElem.1 hb
     exact(stampE_len (HST.out j hj (by rw[←H4.out];exact hj))).1),H4.out]
   obtain⟨g9,c9,hv9,hg9,hg9l,hc9,hn9⟩:=O.out.begins (fun h=>by rw[h]at hlen;cases hlen)
   rw[hlen]at hv9 hc9
   subst hv9
   have hbts:=allSl_bts HB.out
   have n0:=nats_get hn9 (i:=0) (by rw[hlen];decide)
   have n1:=nats_get hn9 (i:=1) (by rw[hlen];decide)
   rw[Nat.zero_add]at n0 n1
   have hor:=bits_or64 ((allSl bs).getD 0 0) ((allSl bs).getD 1 0) (getD_bts hbts 0) (getD_bts hbts 1)
   obtain⟨N,hN⟩:∃N,lenSl bs=N:=⟨_,rfl⟩
   rw[show 256*(allSl bs).getD 0 0+(allSl bs).getD 1 0=N from hN]at hor
   have hx0:=getD_bts hbts 0
   have hx1:=getD_bts hbts 1
   have NB:=qh (show bodySl bs=((allSl bs).drop 2).take N from by unfold bodySl;rw[hN])
   rw[hN]at F4 F0
   have HNN:=qh (show NatsAt wr .u8 (some ⟨g9,0,none⟩) (allSl bs)from hn9)
   have HLEN:=qh hlen
   have HBT:=qh hbts
   generalize (allSl bs).getD 0 0=x0 at n0 hor hx0
   generalize (allSl bs).getD 1 0=x1 at n1 hor hx1
   have q0:=fun dq os=>cell_regrown (w:=wr) n0 dq os
   have q1:=fun dq os=>cell_regrown (w:=wr) n1 dq os
   clear n0 n1 hN hlen hbts hn9 hi hgo O
   go_wp2_with fail
   refine wp_region_quiet_below (by kernel_rfl) (by kernel_rfl) ?_
   repeat(first|go_big_quiet_step (fail)|quiet_step (fail))
   refine wpQuiet_nil ?_
   intro _ hw'
   obtain⟨⟨dq,osq⟩,hw''⟩:=hw'
   subst hw''
   have kq:=qh (show Same wr _ from Kept.of_below (below_regrown wr dq osq))
   obtain⟨w5,hw5⟩:∃w5,grow (redrawn wr dq) osq=w5:=⟨_,rfl⟩
   rw[hw5]at kq ⊢
   have K5:=qh (K.out.trans kq.out)
   have N5:=qh (HNN.out.same kq.out)
   clear hw5 kq q0 q1 K HNN
   by_cases hbig:954<N
   ·have FI:=qh (F4.out OKS.out (.inl hbig))
    have g1:(954:Int)<(N:Int):=by omega
    go_wp2_with fail
    (try simp only[Exit.inBlock,Exit.then])
    refine bodyPost_ret (results_tmp3 rfl _ _ _) rfl ?_
    exact FI.out _ K5.out
   ·have g1:¬(954:Int)<(N:Int):=by omega
    obtain⟨B,hB⟩:∃B,bodySl bs=B:=⟨_,rfl⟩
    rw[hB]at NB F0 F4
    have hBl:B.length=N:=by rw[NB.out,List.length_take,List.length_drop,HLEN.out];omega
    have hBb:Bts B:=by rw[NB.out];exact(HBT.out.drop 2).take N
    have nB:NatsAt w5 .u8 (some ⟨g9,2,none⟩) B:=by
     rw[NB.out]
     have:=(N5.out.drop 2).take N
     rw[Nat.zero_add]at this
     exact this
    have CLN:=qh (by_clone (some ⟨g9,2,none⟩) (c9 - 2) B w5 nB (by omega) (fun h=>by cases h))
    rw[hBl]at CLN
    have HBL:=qh hBl;have HBB:=qh hBb
    have hc9':N+2≤c9:=by omega
    have hn956:2+N≤956:=by omega
    clear hB nB hBl hBb
    go_wp2_with fail
    with_reducible refine CLN.out.mono ?_
    rintro e w6 ⟨v6,rfl,ho6,k6⟩
    obtain⟨a6,l6,c6,rfl,hl6,hnil6,hat6,hc6⟩:=OwnN.rd ho6
    obtain rfl:l6=N:=by rw[hl6.out,HBL.out]
    have K6:=qh (K5.out.trans k6)
    have A6:=qh hat6.out
    have he0:putSlE (gen:Int) B.length=0:=by
     have:=HGR.out
     unfold putSlE
     rw[if_neg (by omega),if_neg (by rw[HBL.out];exact hbig)]
    have PU:=qh ((sn_put (gen:Int) a6 l6 c6 B HBL.out.symm HBB.out w6 A6.out).mono (R':=fun e w'=>(∃v,e=.returned (.tuple #[v,.int .i64 0])∧RowsOwn w' w6.heap.size v (putSl gen B))∧Same w6 w') (fun e w' h=>by
     obtain⟨⟨v,h1,h2⟩,h3⟩:=h
     rw[he0,if_pos rfl,Int.toNat_natCast]at h2
     rw[he0]at h1
     exact⟨⟨v,h1,h2⟩,h3⟩))
    clear k6 ho6 he0 CLN hl6
    go_wp2_with fail
    with_reducible refine PU.out.mono ?_
    rintro e w7 ⟨⟨v7,rfl,hr7⟩,k7⟩
    obtain⟨a7,c7,rfl,hra7⟩:=hr7.rowsAt
    have R7:=qh hra7
    have K7:=qh (K6.out.trans k7)
    have A7:=qh (A6.out.same k7)
    rw[putSl_len]
    clear k7 hr7 hra7 PU K6 A6
    go_wp2_with fail
    go_loopw [76] (fun t wr=>∃(i:Nat),t=.int .i64 i∧i≤4∧(putSl gen B).take i=bs.take i∧Same w7 wr) (fun t _=>4 - (intOf t).toNat)
    case atStart=>exact⟨0,rfl,by omega,rfl,Kept.refl _ _⟩
    case round=>
     obtain⟨i,rfl,hi,he,hk⟩:=hrel
     have K:=qh hk
     have HE:=qh he
     clear hk he
     by_cases hgo:i<4
     ·have hil:i<bs.length:=by rw[H4.out];exact hgo
      have hil2:i<(putSl gen B).length:=by rw[putSl_len];exact hgo
      obtain⟨_,_,xa,xn,xc,q, -,hxn,hxc,hcc⟩:=rows_at HAT.out hil
      cases q
      obtain⟨k7a,o7,ya,yn,yc,rfl, -,hyn,hyc,hcd⟩:=rows_at R7.out hil2
      obtain⟨c0,hxa⟩:=hcc _ (K7.out.trans K.out)
      obtain⟨d0,hya⟩:=hcd _ K.out
      have EQ:=qh (by_equal ya xa yn xn yc xc (putSl gen B)[i] bs[i] wr hyn hxn (putSl_bts (by rw[HBL.out];omega) HBB.out _ (List.getElem_mem _)) (HB.out _ (List.getElem_mem _)) hya hxa)
      have T1:=qh (List.take_append_getElem hil)
      have T2:=qh (List.take_append_getElem hil2)
      have NE:=qh (show(putSl gen B)[i]≠bs[i]→putSl gen B≠bs from fun h q=>h (by congr 1))
      generalize (putSl gen B)[i]=X at EQ T2 NE
      generalize bs[i]=Y at EQ T1 NE
      have g2:(i:Int)<4:=by omega
      have g0:(0:Int)≤(i:Int):=by omega
      clear hcc hcd hxa hya hxn hxc hyn hyc
      by_cases hXY:X=Y
      ·have EQ2:=qh (EQ.out.mono (R':=fun e w'=>e=.returned (.bool true)∧w'=wr) (fun e w' h=>by rw[decide_eq_true hXY]at h;exact h))
       have TT:=qh (show(putSl gen B).take (i+1)=bs.take (i+1)from by rw[←T1.out,←T2.out,HE.out,hXY])
       clear EQ hXY
       go_wp2_with fail
       with_reducible refine EQ2.out.mono ?_
       rintro e w8 ⟨rfl,rfl⟩
       go_wp2_with fail
       exact⟨⟨i+1,by go_num,by omega,TT.out,K.out⟩,by simp[intOf];omega⟩
      ·have EQ2:=qh (EQ.out.mono (R':=fun e w'=>e=.returned (.bool false)∧w'=wr) (fun e w' h=>by rw[decide_eq_false hXY]at h;exact h))
       have FI:=qh (F4.out OKS.out (.inr (NE.out hXY)) wr (K7.out.trans K.out))
       clear EQ hXY
       go_wp2_with fail
       with_reducible refine EQ2.out.mono ?_
       rintro e w8 ⟨rfl,rfl⟩
       go_wp2_with fail
       (try simp only[Exit.inBlock,Exit.then])
       refine bodyPost_ret (results_tmp3 rfl _ _ _) rfl ?_
       exact FI.out
     ·have hi4:i=4:=by omega
      subst hi4
      have hpb:putSl gen B=bs:=by
       have:=HE.out
       rw[List.take_of_length_le (by rw[putSl_len];exact Nat.le_refl _),List.take_of_length_le (by rw[H4.out];exact Nat.le_refl _)]at this
       exact this
      have FI:=qh (F0.out OKS.out hbig hpb wr (K7.out.trans K.out) a6 l6 c6 HBL.out.symm (A7.out.same K.out) hc6.out.1 (fun h=>by
       have h1:=hnil6.out h
       have h2:=hc6.out.1
       exact List.eq_nil_of_length_eq_zero (by rw[HBL.out];omega)))
      clear hpb hi hgo
      go_wp2_with fail
      (try simp only[Exit.inBlock,Exit.then])
      refine bodyPost_ret (results_tmp3 rfl _ _ _) rfl ?_
      exact FI.out
end
end
end Go.Proofs.YtmiglhlbhbfodaaGreatDoor
