/- What a mix of two maps is, number by number; no program in sight. -/
import Derived.Test.YtmiglhlbhbfodaaGreatDoorGFo
import Derived.Test.YtmiglhlbhbfodaaGreatDoorGBmC
import Derived.Test.YtmiglhlbhbfodaaGreatDoorBm3
namespace Go.Proofs.YtmiglhlbhbfodaaGreatDoor
theorem big_bit(x b:Nat)(hx:x<18446744073709551616)(hb:64≤b):x.testBit b=false:=by
 rw[Nat.testBit_lt_two_pow]
 exact Nat.lt_of_lt_of_le hx (by have:2^64≤2^b:=Nat.pow_le_pow_right (by decide) hb;simpa using this)
theorem words_ext{xs ys:List Nat}(hx:Words xs)(hy:Words ys)(hl:xs.length=ys.length)(h:∀j,j<64*xs.length→bitN xs j=bitN ys j):xs=ys:=by
 apply List.ext_getElem hl
 intro i h1 h2
 apply Nat.eq_of_testBit_eq
 intro b
 by_cases hb:b<64
 ·have:=h (64*i+b) (by omega)
  rw[bitN_at xs i b hb,bitN_at ys i b hb]at this
  rw[List.getD,List.getD,List.getElem?_eq_getElem h1,List.getElem?_eq_getElem h2]at this
  exact this
 ·rw[big_bit _ b (hx _ (List.getElem_mem h1)) (by omega),big_bit _ b (hy _ (List.getElem_mem h2)) (by omega)]
def comb(all p q:Bool):Bool:=if all then p&&q else p||q
def combN(all:Bool)(x y:Nat):Nat:=if all then x&&& y else x|||y
theorem combN_bit(all:Bool)(x y b:Nat):(combN all x y).testBit b=comb all (x.testBit b) (y.testBit b):=by
 unfold combN comb;cases all<;>simp[Nat.testBit_and,Nat.testBit_or]
theorem combN_lt(all:Bool){x y:Nat}(hx:x<18446744073709551616)(hy:y<18446744073709551616):combN all x y<18446744073709551616:=by
 unfold combN
 cases all
 ·have h1:x<2^64:=by simpa using hx
  have h2:y<2^64:=by simpa using hy
  simpa using Nat.or_lt_two_pow h1 h2
 ·simpa using Nat.lt_of_le_of_lt Nat.and_le_left hx
def MixTo(s t:Int)(xs ys:List Nat)(all:Bool)(L k:Nat)(zs:List Nat):Prop:=
 zs.length=L∧Words zs∧∀j,j<64*L→bitN zs j=(decide (j<k)&&comb all (hasM s xs j) (hasM t ys j))
theorem mixTo_zero(s t:Int)(xs ys:List Nat)(all:Bool)(L:Nat):MixTo s t xs ys all L 0 (List.replicate L 0):=by
 refine⟨by simp,fun x hx=>by rw[List.eq_of_mem_replicate hx];decide,fun j _=>?_⟩
 have:(List.replicate L 0).getD (j / 64) 0=0:=by
  rw[List.getD,List.getElem?_replicate];split<;>rfl
 unfold bitN
 rw[this]
 simp
theorem mixTo_ok{s t:Int}{xs ys:List Nat}{all:Bool}{m k:Nat}{zs:List Nat}(h:MixTo s t xs ys all ((m+63) / 64) k zs)(hk:k≤m)(hm:m≤4096):mapOK m zs=true:=by
 rw[mapOK_iff h.2.1]
 refine⟨hm,h.1,fun n h1 h2=>?_⟩
 rw[h.2.2 n (by rw[h.1]at h2;exact h2)]
 have:¬n<k:=by omega
 simp[this]
theorem mixTo_step{s t:Int}{xs ys:List Nat}{all:Bool}{m k:Nat}{zs:List Nat}(h:MixTo s t xs ys all ((m+63) / 64) k zs)(hk:k<m)(hm:m≤4096):
 MixTo s t xs ys all ((m+63) / 64) (k+1) (setN m zs k (comb all (hasM s xs k) (hasM t ys k))):=by
 have ok:=mixTo_ok h (by omega) hm
 have hin:inB m zs k=true:=by simp[inB,ok,hk]
 have e:setN m zs k (comb all (hasM s xs k) (hasM t ys k))=putN zs k (comb all (hasM s xs k) (hasM t ys k)):=by simp[setN,hin]
 rw[e]
 refine⟨by rw[putN_length];exact h.1,putN_words h.2.1 _ _,fun j hj=>?_⟩
 rw[putN_bit zs k _ (by rw[h.1];omega),h.2.2 j hj]
 by_cases hjk:j=k
 ·subst hjk;simp
 ·rw[if_neg hjk]
  have:(j<k+1)↔j<k:=by omega
  simp[this]
theorem mixK_bit(op:Nat→Nat→Nat)(xs ys:List Nat)(L j:Nat)(hj:j<64*L):bitN (mixK op xs ys L L) j=(op (xs.getD (j / 64) 0) (ys.getD (j / 64) 0)).testBit (j % 64):=by
 unfold bitN mixK
 have h:j / 64<L:=by omega
 rw[List.getD,List.getElem?_map,List.getElem?_range h]
 simp[h]
theorem mixK_words(all:Bool){xs ys:List Nat}(hx:Words xs)(hy:Words ys)(L:Nat):Words (mixK (combN all) xs ys L L):=by
 intro z hz
 unfold mixK at hz
 obtain⟨i,_,rfl⟩:=List.mem_map.1 hz
 split
 ·exact combN_lt all (getD_word hx i) (getD_word hy i)
 ·decide
theorem hasB_bit{s:Nat}{xs:List Nat}(hx:Words xs)(hm:mapOK s xs=true)(j:Nat):hasM s xs j=bitN xs j:=by
 by_cases hj:j<s
 ·have:inB s xs j=true:=by simp[inB,hm,hj]
  simp[hasM,this]
 ·have h1:hasM s xs j=false:=by simp[hasM,inB,hj]
  rw[h1]
  have ok:=(mapOK_iff hx).1 hm
  by_cases h2:j<64*xs.length
  ·exact(ok.2.2 j (by omega) h2).symm
  ·have:xs.getD (j / 64) 0=0:=by rw[List.getD,List.getElem?_eq_none (by omega)];rfl
   unfold bitN
   rw[this]
   simp
theorem mixTo_done{s t m:Nat}{xs ys:List Nat}{all:Bool}{zs:List Nat}(hx:Words xs)(hy:Words ys)(hmx:mapOK s xs=true)(hmy:mapOK t ys=true)(hm:m=max s t)
 (h:MixTo s t xs ys all ((m+63) / 64) m zs):zs=mixK (combN all) xs ys ((m+63) / 64) ((m+63) / 64):=by
 apply words_ext h.2.1 (mixK_words all hx hy _) (by rw[h.1,mixK_len])
 intro j hj
 rw[h.1]at hj
 rw[h.2.2 j hj,mixK_bit _ _ _ _ _ hj,combN_bit,hasB_bit hx hmx,hasB_bit hy hmy]
 by_cases hjm:j<m
 ·simp[hjm,bitN]
 ·have e1:bitN xs j=false:=by rw[←hasB_bit hx hmx];have:¬j<s:=by omega
                              simp[hasM,inB,this]
  have e2:bitN ys j=false:=by rw[←hasB_bit hy hmy];have:¬j<t:=by omega
                              simp[hasM,inB,this]
  unfold bitN at e1 e2
  rw[e1,e2]
  simp[hjm,comb]
theorem combN_false:combN false=(· ||| ·):=by funext x y;simp[combN]
end Go.Proofs.YtmiglhlbhbfodaaGreatDoor
