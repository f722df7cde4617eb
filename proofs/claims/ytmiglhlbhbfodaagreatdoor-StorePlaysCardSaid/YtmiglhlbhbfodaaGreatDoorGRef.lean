/- GRef: Ref3a, Ref3b, Ref3c, Ref3d, Ref3e, Ref3f, Ref3g, Ref3h, SecRd, Do3, Same3, Both3. -/
import Derived.Test.YtmiglhlbhbfodaaGreatDoorGSecB
import Derived.Test.YtmiglhlbhbfodaaGreatDoorEl
import Derived.Test.YtmiglhlbhbfodaaGreatDoorRead
import Derived.Lib.SmallJoins
import Derived.Lib.QuietBelow
import Derived.Deep.QuietTactic
import Derived.BigQuiet
set_option maxHeartbeats 4000000
set_option maxRecDepth 100000
namespace Go.Proofs.YtmiglhlbhbfodaaGreatDoor
section
open Go.RowKit
def refV(a:Option Addr)(n c:Nat)(D:Dsk):Value:=.agg #[.slice a n c,.bool D.off,.int .i64 D.calls,.int .i64 D.after,.bool D.done]
def cells3(s:List Sec):List Value:=s.flatMap fun x=>[.string (strN x.has),.string (strN x.safe),.bool x.waits]
def SecsAt(w:World)(a:Option Addr)(s:List Sec):Prop:=s=[]∨∃b off,a=some ⟨b,off,none⟩∧b<w.heap.size∧∀(i:Nat) (x:Sec),s[i]? =some x→
 w.cell? ⟨b,off+i*3,none⟩=some (.string (strN x.has))∧w.cell? ⟨b,off+i*3+1,none⟩=some (.string (strN x.safe))∧w.cell? ⟨b,off+i*3+2,none⟩=some (.bool x.waits)
theorem SecsAt.same{w w':World}{a:Option Addr}{s:List Sec}(h:SecsAt w a s)(k:Same w w'):SecsAt w' a s:=by
 rcases h with h|⟨b,off,rfl,hb,hc⟩
 ·exact .inl h
 ·have e:∀j,w'.cell? ⟨b,j,none⟩=w.cell? ⟨b,j,none⟩:=fun j=>k.cell (p:=⟨b,j,none⟩) hb (fun h=>h)
  exact .inr ⟨b,off,rfl,Nat.lt_of_lt_of_le hb k.size,fun i x hx=>by rw[e,e,e];exact hc i x hx⟩
theorem rs_at(a:Option Addr)(n c:Nat)(D:Dsk)(hn:n=D.s.length)(i:Int)(w:World):
 Calls Tryz.prog 141 #[refV a n c D,.int .i64 i] w fun e w'=>e=.returned (.int .i64 (errD D i:Nat))∧Same w w':=by
 obtain⟨s,off,calls,after,done⟩:=D
 subst hn
 simp only[refV,errD]
 go_enter Tryz.func141,Tryz.ntmps141
 cases off
 ·by_cases h1:i<0
  ·go_wp2_with fail
   go_ret
   exact⟨by simp,(Kept.refl _ w).alloc _⟩
  ·by_cases h2:(s.length:Int)≤i
   ·go_wp2_with fail
    go_ret
    exact⟨by simp,(Kept.refl _ w).alloc _⟩
   ·go_wp2_with fail
    go_ret
    exact⟨by simp,(Kept.refl _ w).alloc _⟩
 ·go_wp2_with fail
  go_ret
  exact⟨rfl,(Kept.refl _ w).alloc _⟩
theorem rs_break(a:Option Addr)(n c:Nat)(D:Dsk)(x:Int)(o:Bool)(w:World):
 Calls Tryz.prog 111 #[refV a n c D,.int .i64 x,.bool o] w fun e w'=>e=.returned (.tuple #[refV a n c (breakD D x o).1,.int .i64 ((breakD D x o).2:Nat)])∧Same w w':=by
 obtain⟨s,off,calls,after,done⟩:=D
 cases off
 ·by_cases h1:x<0
  ·have e1:breakD ⟨s,false,calls,after,done⟩ x o=(⟨s,false,calls,after,done⟩,2):=by simp[breakD,h1]
   rw[e1]
   simp only[refV]
   go_enter Tryz.func111,Tryz.ntmps111
   go_wp2_with fail
   refine bodyPost_ret (results_two_tmp rfl _ _ _ _ _ _ rfl (Blk.new' _ _ _ (by simp)) Tryz.underlying104 rfl (by kernel_rfl)) rfl ?_
   exact⟨rfl,((Kept.refl _ w).alloc _).alloc _⟩
  ·have e1:breakD ⟨s,false,calls,after,done⟩ x o=(⟨s,false,calls,x,o⟩,0):=by simp[breakD,h1]
   rw[e1]
   simp only[refV]
   go_enter Tryz.func111,Tryz.ntmps111
   go_wp2_with fail
   refine bodyPost_ret (results_two_tmp rfl _ _ _ _ _ _ rfl (Blk.new' _ _ _ (by simp)) Tryz.underlying104 rfl (by kernel_rfl)) rfl ?_
   exact⟨rfl,((Kept.refl _ w).alloc _).alloc _⟩
 ·have e1:breakD ⟨s,true,calls,after,done⟩ x o=(⟨s,true,calls,after,done⟩,8):=by simp[breakD]
  rw[e1]
  simp only[refV]
  go_enter Tryz.func111,Tryz.ntmps111
  go_wp2_with fail
  refine bodyPost_ret (results_two_tmp rfl _ _ _ _ _ _ rfl (Blk.new' _ _ _ (by simp)) Tryz.underlying104 rfl (by kernel_rfl)) rfl ?_
  exact⟨rfl,((Kept.refl _ w).alloc _).alloc _⟩
theorem rs_read(a:Option Addr)(n c:Nat)(D:Dsk)(hn:n=D.s.length)(i:Int)(w:World)(hs:SecsAt w a D.s):
 Calls Tryz.prog 100 #[refV a n c D,.int .i64 i] w fun e w'=>e=.returned (.tuple #[.string (strN (readD D i).1),.int .i64 ((readD D i).2:Nat)])∧Same w w':=by
 have A:=fun w'=>rs_at a n c D hn i w'
 have SS:=qh hs
 obtain⟨E,hE⟩:∃E,errD D i=E:=⟨_,rfl⟩
 rw[hE]at A
 have A:=qh A
 by_cases h0:E=0
 ·subst h0
  obtain⟨-,hi0,hi1⟩:=errD_zero hE
  obtain⟨N,hN⟩:∃N:Nat,i=(N:Int):=⟨i.toNat,by omega⟩
  subst hN
  have hN:N<D.s.length:=by omega
  have hx:=get_of hN
  have er:readD D (N:Nat)=((D.s.getD N sec0).has,0):=by unfold readD;rw[if_pos hE,Int.toNat_natCast]
  rw[er]
  obtain⟨x,hxx⟩:∃x,D.s.getD N sec0=x:=⟨_,rfl⟩
  rw[hxx]at hx ⊢
  rcases hs with h|⟨b,o,rfl,hb,hc⟩
  ·rw[h]at hN;simp at hN
  have c0:=(hc N x hx).1
  have hn1:(N:Int)<(n:Int):=by omega
  obtain⟨s,off,calls,after,done⟩:=D
  simp only[refV]at A ⊢
  clear hE hx hxx er hc hn
  go_enter Tryz.func100,Tryz.ntmps100
  go_wp2_with fail
  refine(A.out _).mono ?_
  rintro e w3 ⟨rfl,k3⟩
  have kb:=((Kept.refl (fun _=>False) w).alloc (.cells #[.slice (some ⟨b,o,none⟩) n c,.bool off,.int .i64 calls,.int .i64 after,.bool done] 104)).trans k3
  have bb:=(Blk.new w #[.slice (some ⟨b,o,none⟩) n c,.bool off,.int .i64 calls,.int .i64 after,.bool done] 104).kept k3 (fun h=>h)
  have p0:=cell_blk bb
  have c1:=(kb.cell (p:=⟨b,o+N*3,none⟩) hb (fun h=>h)).trans c0
  have KB:=qh kb
  have hN0:(0:Int)≤(N:Int):=by omega
  clear kb bb k3 c0
  go_wp2_with fail
  go_ret2
  exact⟨rfl,KB.out⟩
 ·have er:readD D i=([],E):=by unfold readD;rw[if_neg (by rw[hE];exact h0),hE]
  rw[er]
  have h0':¬(E:Int)=0:=by omega
  obtain⟨s,off,calls,after,done⟩:=D
  simp only[refV]at A ⊢
  clear hE er hn hs
  go_enter Tryz.func100,Tryz.ntmps100
  go_wp2_with fail
  refine(A.out _).mono ?_
  rintro e w3 ⟨rfl,k3⟩
  have KB:=qh (((Kept.refl (fun _=>False) w).alloc (.cells #[.slice a n c,.bool off,.int .i64 calls,.int .i64 after,.bool done] 104)).trans k3)
  clear k3
  go_wp2_with fail
  go_ret2
  exact⟨rfl,KB.out⟩
theorem rs_call(a a':Option Addr)(n c n' c':Nat)(D:Dsk)(s:List Sec)(hoff:D.off=false)(haft: -1≤D.after∧D.after<9223372036854775808)(w:World):
 Calls Tryz.prog 149 #[refV a n c D,refV a' n' c' {D with s:=s}] w fun e w'=>
  e=.returned (.tuple #[if D.after=0∧D.done=false then refV a n c (callD D s).1 else refV a' n' c' (callD D s).1,.int .i64 ((callD D s).2:Nat)])∧Same w w':=by
 obtain⟨S,off,calls,after,done⟩:=D
 dsimp only at hoff haft
 subst hoff
 by_cases h0:after=0
 ·subst h0
  cases done
  ·have e1:callD ⟨S,false,calls,0,false⟩ s=(⟨S,true,wrap64 (calls+1), -1,false⟩,8):=by simp[callD]
   rw[e1,if_pos ⟨rfl,rfl⟩]
   simp only[refV]
   clear e1
   go_enter Tryz.func149,Tryz.ntmps149
   go_wp2_with fail
   go_region
   all_goals go_wp2_with fail
   all_goals
    refine bodyPost_ret (results_two_tmp rfl _ _ _ _ _ _ rfl (Blk.new' _ _ _ (by simp)) Tryz.underlying104 rfl (by kernel_rfl)) rfl ?_
    exact⟨rfl,by repeat(first|exact Kept.refl _ _|with_reducible refine Kept.drew ?_ |with_reducible refine Kept.alloc ?_ _)⟩
  ·have e1:callD ⟨S,false,calls,0,true⟩ s=(⟨s,true,wrap64 (calls+1), -1,true⟩,8):=by simp[callD]
   rw[e1,if_neg (fun q=>by cases q.2)]
   simp only[refV]
   clear e1
   go_enter Tryz.func149,Tryz.ntmps149
   go_wp2_with fail
   go_region
   all_goals go_wp2_with fail
   all_goals
    refine bodyPost_ret (results_two_tmp rfl _ _ _ _ _ _ rfl (Blk.new' _ _ _ (by simp)) Tryz.underlying104 rfl (by kernel_rfl)) rfl ?_
    exact⟨rfl,by repeat(first|exact Kept.refl _ _|with_reducible refine Kept.drew ?_ |with_reducible refine Kept.alloc ?_ _)⟩
 ·by_cases h1:after= -1
  ·subst h1
   have e1:callD ⟨S,false,calls, -1,done⟩ s=(⟨s,false,wrap64 (calls+1), -1,done⟩,0):=by simp[callD]
   rw[e1,if_neg (fun q=>by cases q.1)]
   simp only[refV]
   clear e1
   go_enter Tryz.func149,Tryz.ntmps149
   go_wp2_with fail
   go_region
   all_goals go_wp2_with fail
   all_goals
    refine bodyPost_ret (results_two_tmp rfl _ _ _ _ _ _ rfl (Blk.new' _ _ _ (by simp)) Tryz.underlying104 rfl (by kernel_rfl)) rfl ?_
    exact⟨rfl,by repeat(first|exact Kept.refl _ _|with_reducible refine Kept.drew ?_ |with_reducible refine Kept.alloc ?_ _)⟩
  ·have e1:callD ⟨S,false,calls,after,done⟩ s=(⟨s,false,wrap64 (calls+1),after - 1,done⟩,0):=by simp[callD,h0,h1]
   have hp:0≤after:=by omega
   have ex:wrap64 (after - 1)=after - 1:=by unfold wrap64;omega
   have hb0:(after==0)=false:=by simp[h0]
   rw[e1,if_neg (fun q=>h0 q.1)]
   simp only[refV]
   clear e1
   go_enter Tryz.func149,Tryz.ntmps149
   go_wp2_with fail
   go_region
   all_goals go_wp2_with fail
   all_goals
    refine bodyPost_ret (results_two_tmp rfl _ _ _ _ _ _ rfl (Blk.new' _ _ _ (by simp)) Tryz.underlying104 rfl (by kernel_rfl)) rfl ?_
    exact⟨rfl,by repeat(first|exact Kept.refl _ _|with_reducible refine Kept.drew ?_ |with_reducible refine Kept.alloc ?_ _)⟩
end
section
open Go.RowKit
theorem cells3_len(s:List Sec):(cells3 s).length=s.length*3:=by
 unfold cells3
 induction s with
 |nil=>rfl
 |cons x s ih=>rw[List.flatMap_cons,List.length_append,ih,List.length_cons];simp;omega
theorem cells3_get(s:List Sec):∀(n:Nat) (x:Sec),s[n]? =some x→∀j,j<3→(cells3 s)[n*3+j]? =([.string (strN x.has),.string (strN x.safe),.bool x.waits]:List Value)[j]? :=by
 induction s with
 |nil=>intro n x hx;simp at hx
 |cons y s ih=>
  intro n x hx j hj
  unfold cells3
  rw[List.flatMap_cons]
  cases n with
  |zero=>
   simp at hx
   subst hx
   rw[Nat.zero_mul,Nat.zero_add,List.getElem?_append_left (by simpa using hj)]
  |succ n=>
   rw[List.getElem?_append_right (by simp;omega)]
   have:=ih n x (by simpa using hx) j hj
   simp only[List.length_cons,List.length_nil]
   rw[show(n+1)*3+j - (0+1+1+1)=n*3+j from by omega]
   exact this
theorem cells3_one(s:List Sec):∀v∈cells3 s,v.oneCell'=true:=by
 intro v hv
 obtain⟨x,_,hx⟩:=List.mem_flatMap.1 hv
 simp at hx
 rcases hx with rfl|rfl|rfl<;>rfl
theorem secsAt_cells{w:World}{b off:Nat}{s:List Sec}(h:SecsAt w (some ⟨b,off,none⟩) s):∀j u,(cells3 s)[j]? =some u→w.cell? ⟨b,off+j,none⟩=some u:=by
 intro j u hu
 have hj:j<s.length*3:=by rw[←cells3_len];exact(List.getElem?_eq_some_iff.1 hu).1
 rcases h with h|⟨b',off',e,_,hc⟩
 ·subst h;simp at hj
 ·cases e
  have hn:j / 3<s.length:=by omega
  have hx:=get_of hn
  have h3:=hc _ _ hx
  have e:j / 3*3+j % 3=j:=by omega
  have hg:=cells3_get s (j / 3) _ hx (j % 3) (by omega)
  rw[e,hu]at hg
  have hm:j % 3=0∨j % 3=1∨j % 3=2:=by omega
  rcases hm with q|q|q
  ·rw[q]at hg
   rw[show off+j=off+j / 3*3 from by omega,h3.1];exact hg.symm
  ·rw[q]at hg
   rw[show off+j=off+j / 3*3+1 from by omega,h3.2.1];exact hg.symm
  ·rw[q]at hg
   rw[show off+j=off+j / 3*3+2 from by omega,h3.2.2];exact hg.symm
theorem secsAt_of{w:World}{g:Nat}{cur:Array Value}{t:TypeId}{s:List Sec}(hb:Blk w g cur t)(h:cur.toList.take (s.length*3)=cells3 s):SecsAt w (some ⟨g,0,none⟩) s:=by
 refine .inr ⟨g,0,rfl,hb.lt,fun i x hx=>?_⟩
 have hi:=(List.getElem?_eq_some_iff.1 hx).1
 have key:∀j,j<3→w.cell? ⟨g,0+i*3+j,none⟩=([.string (strN x.has),.string (strN x.safe),.bool x.waits]:List Value)[j]? :=by
  intro j hj
  rw[cell_blk hb,←cells3_get s i x hx j hj,←h,List.getElem?_take,if_pos (by omega),Nat.zero_add,Array.getElem?_toList]
 exact⟨key 0 (by decide),key 1 (by decide),key 2 (by decide)⟩
theorem cells3_set{cur:Array Value}{s:List Sec}{k:Nat}(hk:k<s.length)(x:Sec)(h:cur.toList.take (s.length*3)=cells3 s)(hc:s.length*3≤cur.size):
 (((cur.setIfInBounds (k*3) (.string (strN x.has))).setIfInBounds (k*3+1) (.string (strN x.safe))).setIfInBounds (k*3+2) (.bool x.waits)).toList.take ((s.set k x).length*3)=cells3 (s.set k x):=by
 apply List.ext_getElem?
 intro j
 rw[List.length_set,List.getElem?_take]
 by_cases hj:j<s.length*3
 ·rw[if_pos hj]
  have hn:j / 3<s.length:=by omega
  have e:j / 3*3+j % 3=j:=by omega
  have hold:=cells3_get s (j / 3) _ (get_of hn) (j % 3) (by omega)
  rw[e,←h,List.getElem?_take,if_pos hj]at hold
  have hx2:(s.set k x)[j / 3]? =some (if k=j / 3 then x else s.getD (j / 3) sec0):=by
   rw[List.getElem?_set]
   by_cases q:k=j / 3
   ·rw[if_pos q,if_pos (by omega),if_pos q]
   ·rw[if_neg q,if_neg q];exact get_of hn
  have hnew:=cells3_get (s.set k x) (j / 3) _ hx2 (j % 3) (by omega)
  rw[e]at hnew
  rw[hnew,Array.getElem?_toList]
  have hm:j % 3=0∨j % 3=1∨j % 3=2:=by omega
  by_cases q:k=j / 3
  ·rw[if_pos q]
   rcases hm with m|m|m
   ·rw[m,show j=k*3 from by omega]
    simp[show k*3<cur.size from by omega]
   ·rw[m,show j=k*3+1 from by omega]
    simp[show k*3+1<cur.size from by omega]
   ·rw[m,show j=k*3+2 from by omega]
    simp[show k*3+2<cur.size from by omega]
  ·rw[if_neg q,←hold]
   rw[Array.getElem?_setIfInBounds,if_neg (by omega),Array.getElem?_setIfInBounds,if_neg (by omega),Array.getElem?_setIfInBounds,if_neg (by omega),Array.getElem?_toList]
 ·rw[if_neg hj,List.getElem?_eq_none (by rw[cells3_len,List.length_set];omega)]
end
section
open Go.RowKit
def OwnS(w:World)(base:Nat)(v:Value)(s:List Sec):Prop:=w.ownsRow base 155 3 v s.length (cells3 s)
def zsec:Value:=.agg #[.string ByteArray.empty,.string ByteArray.empty,.bool false]
theorem info_sec:(Tryz.prog.info? 155).map (fun i=>(i.zero,i.size,i.bytes))=some (some zsec,3,40):=by kernel_rfl
theorem cells3_append(s t:List Sec):cells3 (s++t)=cells3 s++cells3 t:=by unfold cells3;rw[List.flatMap_append]
theorem app_secs(w:World)(base:Nat)(v:Value)(s:List Sec)(hown:OwnS w base v s)(ao:Option Addr)(m c:Nat)(ys:List Sec)(hm:m=ys.length)(hat:SecsAt w ao ys)(hnil:ao=none→c=0)
 (hlen:s.length+ys.length≤100000) (hbase:base≤w.heap.size):
 ∃v' w',(Builtin.append_ #[102,102] 102 #[v,.slice ao m c]).run Tryz.prog w=.ok v' w'∧OwnS w' base v' (s++ys)∧w.grownBy w' v.ownBlock:=by
 obtain⟨i,hi,e⟩:=Option.map_eq_some_iff.1 info_sec
 simp only[Prod.mk.injEq]at e
 obtain⟨hz,hsz,hby⟩:=e
 subst hm
 cases ao with
 |none=>
  obtain rfl:=hnil rfl
  have:ys=[]:=by rcases hat with h|⟨_,_,h,_⟩;exact h;cases h
  subst this
  refine⟨v,w,run_append_owned_none (P:=Tryz.prog) (w:=w) base _ _ _ i 3 Tryz.underlying102 hi v _ _ hown,?_,World.grownBy.refl w _⟩
  rw[List.append_nil];exact hown
 |some ad=>
  have hlen3:(cells3 ys).length=ys.length*3:=cells3_len ys
  have hc:∀j u,(cells3 ys)[j]? =some u→w.cell? (ad.add j)=some u:=by
   intro j u hu
   have hat':=hat
   rcases hat with rfl|⟨b,off,e,_,_⟩
   ·simp[cells3]at hu
   ·cases e
    have:=secsAt_cells hat' j u hu
    unfold Addr.add
    split
    ·subst j;simpa using this
    ·exact this
  obtain⟨v',w',hrun,h2,h3,_⟩:=run_append_own (P:=Tryz.prog) w base _ 102 _ i zsec 3 40 Tryz.underlying102 hi hz hsz hby rfl (by decide) v s.length _ hown ad ys.length c _ hlen3 hc (cells3_one ys) (by unfold maxLen;omega) (by omega) hbase
  refine⟨v',w',hrun,?_,h3⟩
  unfold OwnS
  rw[List.length_append,cells3_append]
  exact h2
theorem OwnS.nil(w:World)(base:Nat):OwnS w base (.slice none 0 0) []:=⟨rfl,.inl ⟨rfl,rfl⟩⟩
theorem OwnS.read{w:World}{base:Nat}{v:Value}{s:List Sec}(h:OwnS w base v s)(hs:s≠[]):
 ∃g cap cur,v=.slice (some ⟨g,0,none⟩) s.length cap∧base≤g∧Blk w g cur 155∧s.length*3≤cur.size∧cur.toList.take (s.length*3)=cells3 s:=by
 rcases h.2 with⟨_,h0⟩|⟨g,cap,cur,rfl,h1,h2,h3,_,h5,h6⟩
 ·exact absurd (List.eq_nil_of_length_eq_zero h0) hs
 ·exact⟨g,cap,cur,rfl,h1,h2,by rw[h5];exact Nat.mul_le_mul_right _ h3,h6⟩
theorem Blk.set5{w:World}{b:Nat}{v0 v1 v2 v3 v4 u0 u1 u2 u3 u4:Value}{t:TypeId}(h:Blk w b #[v0,v1,v2,v3,v4] t):
 Blk (((((w.setCell ⟨b,0,none⟩ u0).setCell ⟨b,1,none⟩ u1).setCell ⟨b,2,none⟩ u2).setCell ⟨b,3,none⟩ u3).setCell ⟨b,4,none⟩ u4) b #[u0,u1,u2,u3,u4] t:=
 ((((h.set 0 u0).set 1 u1).set 2 u2).set 3 u3).set 4 u4
def Far(w:World)(a:Option Addr):Prop:=∀x,a=some x→w.heap.size≤x.block
theorem Far.mono{w w':World}{a:Option Addr}(h:Far w' a)(k:w.heap.size≤w'.heap.size):Far w a:=fun x hx=>Nat.le_trans k (h x hx)
def RefD(w w':World)(e:Ending)(D:Dsk):Prop:=∃a c,e=.returned (refV a D.s.length c D)∧(SecsAt w' a D.s∧Far w a)∧Same w w'
theorem OwnS.same{w w':World}{base:Nat}{v:Value}{s:List Sec}(h:OwnS w base v s)(hk:Same w w'):OwnS w' base v s:=ownsRow_kept h hk (fun _ _ h=>h)
theorem OwnS.kept{w w':World}{base:Nat}{v:Value}{s:List Sec}{fp:Nat→Prop}(h:OwnS w base v s)(hk:Kept fp w w')(hn:∀g,v.ownBlock=some g→¬fp g):OwnS w' base v s:=ownsRow_kept h hk hn
theorem OwnS.far{w:World}{base:Nat}{v:Value}{s:List Sec}(h:OwnS w base v s):∀g,v.ownBlock=some g→base≤g∧g<w.heap.size:=by
 rcases h.2 with⟨rfl,_⟩|⟨g,cap,cur,rfl,h1,h2,_⟩
 ·intro g hg;simp[Value.ownBlock]at hg
 ·intro g' hg;obtain rfl:g=g':=by simpa [Value.ownBlock]using hg
  exact⟨h1,lt_of_block h2⟩
theorem OwnS.secs{w:World}{base:Nat}{v:Value}{s:List Sec}(h:OwnS w base v s):∃a cap,v=.slice a s.length cap∧SecsAt w a s:=by
 by_cases hs:s=[]
 ·subst hs
  rcases h.2 with⟨rfl,_⟩|⟨g,cap,cur,rfl,_⟩
  ·exact⟨none,0,rfl,.inl rfl⟩
  ·exact⟨_,cap,rfl,.inl rfl⟩
 ·obtain⟨g,cap,cur,rfl,_,hb,_,hc⟩:=h.read hs
  exact⟨_,cap,rfl,secsAt_of hb hc⟩
theorem OwnS.at{w:World}{base:Nat}{a:Option Addr}{n c:Nat}{s:List Sec}(h:OwnS w base (.slice a n c) s):SecsAt w a s:=by
 obtain⟨a',c',e,h'⟩:=h.secs
 simp only[Value.slice.injEq]at e
 rw[e.1];exact h'
theorem secsAt_new{w:World}{g:Nat}{x:Sec}{t:TypeId}(h:Blk w g #[.string (strN x.has),.string (strN x.safe),.bool x.waits] t):SecsAt w (some ⟨g,0,none⟩) [x]:=secsAt_of h rfl
section
attribute [local go_sem ↓] exec_app semAt_app
attribute [local go_sem] isApp_lit appA appX
theorem rs_with(a:Option Addr)(n c:Nat)(D:Dsk)(hn:n=D.s.length)(hl:n≤4096)(k:Nat)(hk:k<D.s.length)(x:Sec)(w:World)(hs:SecsAt w a D.s):
 Calls Tryz.prog 107 #[refV a n c D,.int .i64 k,.agg #[.string (strN x.has),.string (strN x.safe),.bool x.waits]] w fun e w'=>
  RefD w w' e {D with s:=D.s.set k x}:=by
 obtain⟨s,off,calls,after,done⟩:=D
 simp only[refV]
 dsimp only at hn hk hs ⊢
 subst hn
 have hs':=hs
 rcases hs with h|⟨b,o,rfl,hb, -⟩
 ·subst h;simp at hk
 have k3:Same w (((w.alloc (.cells #[.slice (some ⟨b,o,none⟩) s.length c,.bool off,.int .i64 calls,.int .i64 after,.bool done] 104)).alloc (.cells #[.string (strN x.has),.string (strN x.safe),.bool x.waits] 155)).alloc (.cells #[.slice none 0 0,.bool false,.int .i64 0,.int .i64 0,.bool false] 104)):=(((Kept.refl _ w).alloc _).alloc _).alloc _
 obtain⟨v4,w4,hrun,h4,g4⟩:=app_secs (((w.alloc (.cells #[.slice (some ⟨b,o,none⟩) s.length c,.bool off,.int .i64 calls,.int .i64 after,.bool done] 104)).alloc (.cells #[.string (strN x.has),.string (strN x.safe),.bool x.waits] 155)).alloc (.cells #[.slice none 0 0,.bool false,.int .i64 0,.int .i64 0,.bool false] 104)) (w.heap.size+1+1+1) (.slice none 0 0) [] (OwnS.nil _ _) (some ⟨b,o,none⟩) s.length c s rfl (hs'.same k3) (fun h=>by cases h) (by simp;omega) (by simp)
 obtain⟨aok,aV,aW⟩:=app_of hrun
 rw[List.nil_append]at h4
 obtain⟨g,cap,cur,rfl,hg,hblk,hcs,hcur⟩:=h4.read (by intro h;rw[h]at hk;simp at hk)
 have F0:Fr (((w.alloc (.cells #[.slice (some ⟨b,o,none⟩) s.length c,.bool off,.int .i64 calls,.int .i64 after,.bool done] 104)).alloc (.cells #[.string (strN x.has),.string (strN x.safe),.bool x.waits] 155)).alloc (.cells #[.slice none 0 0,.bool false,.int .i64 0,.int .i64 0,.bool false] 104)) [(w.heap.size,#[.slice (some ⟨b,o,none⟩) s.length c,.bool off,.int .i64 calls,.int .i64 after,.bool done],104),(w.heap.size+1,#[.string (strN x.has),.string (strN x.safe),.bool x.waits],155),(w.heap.size+1+1,#[.slice none 0 0,.bool false,.int .i64 0,.int .i64 0,.bool false],104)]:=
  ⟨((Blk.new w _ _).alloc _).alloc _,(Blk.new' _ _ _ (by simp)).alloc _,Blk.new' _ _ _ (by simp),trivial⟩
 have kk:Same (((w.alloc (.cells #[.slice (some ⟨b,o,none⟩) s.length c,.bool off,.int .i64 calls,.int .i64 after,.bool done] 104)).alloc (.cells #[.string (strN x.has),.string (strN x.safe),.bool x.waits] 155)).alloc (.cells #[.slice none 0 0,.bool false,.int .i64 0,.int .i64 0,.bool false] 104)) w4:=(Kept.refl _ _).grownNew g4 (fun g h=>by cases h)
 have F4:=F0.same kk
 have K4:=qh (k3.trans kk)
 obtain⟨p0,f0,p1,f1,p2,f2, -⟩:=F4.rules
 have p3:=fun i=>cell_blk hblk i
 have f3:=fun i=>hblk.free i
 have z0:=F4.1.lt
 have z1:=F4.2.1.lt
 have z2:=F4.2.2.1.lt
 have z3:=hblk.lt
 have HB:=qh hblk
 obtain⟨v0,c0⟩:∃v,cur[k*3]? =some v:=⟨_,Array.getElem?_eq_getElem (by omega)⟩
 obtain⟨v1,c1⟩:∃v,cur[k*3+1]? =some v:=⟨_,Array.getElem?_eq_getElem (by omega)⟩
 obtain⟨v2,c2⟩:∃v,cur[k*3+2]? =some v:=⟨_,Array.getElem?_eq_getElem (by omega)⟩
 have F2:=qh F4.2.2.1
 clear hrun F0 kk F4 h4 hblk hs' k3 g4
 go_enter Tryz.func107,Tryz.ntmps107
 go_wp2_with fail
 refine bodyPost_ret (results_two rfl _ _ (w.heap.size+1+1) 104 #[.slice (some ⟨g,0,none⟩) s.length cap,.bool off,.int .i64 calls,.int .i64 after,.bool done] _ rfl ?_ Tryz.underlying104 rfl (by kernel_rfl)) rfl ?_
 ·refine Blk.set5 (v0:=.slice none 0 0) (v1:=.bool false) (v2:=.int .i64 0) (v3:=.int .i64 0) (v4:=.bool false) ?_
  repeat(with_reducible first|exact F2.out|refine Blk.other ?_ (by dsimp only;omega) _)
 refine⟨some ⟨g,0,none⟩,cap,by rw[List.length_set];rfl,⟨?_,fun x hx=>by cases hx;show w.heap.size≤g;omega⟩,?_⟩
 ·refine secsAt_of (g:=g) (t:=155) ?hh (cells3_set hk x hcur hcs)
  repeat(with_reducible first|exact HB.out|refine Blk.set ?_ _ _|refine Blk.other ?_ (by dsimp only;omega) _)
 ·repeat(with_reducible first|exact K4.out|refine Kept.setNew ?_ (by dsimp only;omega) _)
end
end
section
open Go.RowKit
theorem take_settle{s:List Sec}{i:Nat}{x:Sec}(h:s[i]? =some x):settle (s.take (i+1))=settle (s.take i)++[settleS x]:=by
 rw[List.take_add_one,h]
 simp[settle]
section
attribute [local go_sem ↓] exec_app semAt_app
attribute [local go_sem] isApp_lit appA appX
theorem rs_safe(a:Option Addr)(n c:Nat)(D:Dsk)(hn:n=D.s.length)(hl:n≤4096)(w:World)(hs:SecsAt w a D.s):
 Calls Tryz.prog 108 #[refV a n c D] w fun e w'=>RefD w w' e {D with s:=settle D.s}:=by
 obtain⟨s,off,calls,after,done⟩:=D
 simp only[refV]
 dsimp only at hn hs ⊢
 subst hn
 have HS:=qh hs
 clear hs
 go_enter Tryz.func108,Tryz.ntmps108
 go_wp2_with fail
 go_loopw [3,4] (fun lv iv wr=>∃i:Nat,iv=.int .i64 i∧i≤s.length∧OwnS wr (w.heap.size+1+1) lv (settle (s.take i))∧Fr wr [(w.heap.size,#[.slice a s.length c,.bool off,.int .i64 calls,.int .i64 after,.bool done],104),(w.heap.size+1,#[.slice none 0 0,.bool false,.int .i64 0,.int .i64 0,.bool false],104)]∧Same w wr) (fun _ iv _=>s.length - (intOf iv).toNat)
 case atStart=>exact⟨0,rfl,Nat.zero_le _,OwnS.nil _ _,⟨(Blk.new w _ _).alloc _,Blk.new' _ _ _ (by simp),trivial⟩,((Kept.refl _ w).alloc _).alloc _⟩
 case round=>
  obtain⟨i,rfl,hi,ho,hf,hk⟩:=hrel
  have hs:=HS.out.same hk
  obtain⟨p0,f0,p1,f1, -⟩:=hf.rules
  have z0:=hf.1.lt
  have z1:=hf.2.1.lt
  have HF:=qh hf
  have HK:=qh hk
  clear hf hk
  by_cases hgo:i<s.length
  ·have hx:=get_of hgo
   obtain⟨x,hxx⟩:∃x,s.getD i sec0=x:=⟨_,rfl⟩
   rw[hxx]at hx
   have hs':=hs
   rcases hs with h|⟨b,o,rfl,hb,hc⟩
   ·subst h;simp at hgo
   have c0:=(hc i x hx).1
   have ln:(i:Int)<(s.length:Int):=by omega
   have ln0:(0:Int)≤(i:Int):=by omega
   have kB:Same wr ((wr.alloc (.cells #[.string (strN x.has),.string (strN x.has),.bool false] 155)).drew):=((Kept.refl _ wr).alloc _).drew
   obtain⟨v5,w5,hrun,h5,g5⟩:=app_secs ((wr.alloc (.cells #[.string (strN x.has),.string (strN x.has),.bool false] 155)).drew) (w.heap.size+1+1) u3 (settle (s.take i)) (ho.same kB) (some ⟨wr.heap.size,0,none⟩) 1 1 [settleS x] rfl (secsAt_new (x:=settleS x) (Blk.new wr _ _).drew) (fun h=>by cases h) (by simp[settle];omega) (Nat.le_trans (by omega) kB.size)
   obtain⟨aok,aV,aW⟩:=app_of hrun
   have kg:Kept (fun j=>u3.ownBlock=some j) ((wr.alloc (.cells #[.string (strN x.has),.string (strN x.has),.bool false] 155)).drew) w5:=(Kept.refl _ _).grown g5 (fun k hk _=>hk)
   have F5:=qh ((HF.out.same kB).kept kg (fun x hx q=>by have:=(ho.far _ q).1;simp at hx;rcases hx with rfl|rfl<;>simp at this<;>omega))
   have K5:=qh ((HK.out.trans kB).grownNew g5 (fun k hk=>by have:=(ho.far _ hk).1;omega))
   rw[←take_settle hx]at h5
   have H5:=qh h5
   clear hc hrun h5 g5 kg kB ho HF HK
   go_wp2_with fail
   go_region
   all_goals
    go_wp2_with fail
    go_roundw
    case rel=>exact⟨i+1,by go_num,by omega,H5.out.same (by repeat(first|exact Kept.refl _ _|with_reducible refine Kept.drew ?_)),F5.out.same (by repeat(first|exact Kept.refl _ _|with_reducible refine Kept.drew ?_)),by repeat(with_reducible first|exact K5.out|refine Kept.drew ?_)⟩
    case measure=>simp[intOf];omega
  ·have e:i=s.length:=by omega
   subst e
   rw[List.take_length]at ho
   obtain⟨a2,cap2,rfl,hs2⟩:=ho.secs
   have HO:=qh ho
   have hlen:(settle s).length=s.length:=by simp[settle]
   rw[hlen]
   clear ho hs hs2
   go_wp2_with fail
   refine bodyPost_ret (results_two rfl _ _ (w.heap.size+1) 104 #[.slice a2 s.length cap2,.bool off,.int .i64 calls,.int .i64 after,.bool done] _ rfl ?_ Tryz.underlying104 rfl (by kernel_rfl)) rfl ?_
   ·refine Blk.set5 (v0:=.slice none 0 0) (v1:=.bool false) (v2:=.int .i64 0) (v3:=.int .i64 0) (v4:=.bool false) ?_
    repeat(with_reducible refine Blk.other ?_ (by dsimp only;omega) _)
    exact HF.out.2.1
   ·refine⟨a2,cap2,by rw[hlen];rfl,⟨?_,fun x hx=>by subst hx;have:=(HO.out.far x.block rfl).1;omega⟩,?_⟩
    ·refine(HO.out.kept (fp:=fun j=>j<w.heap.size+1+1) ?_ (fun g hg q=>by have:=(HO.out.far g hg).1;omega)).at
     repeat(with_reducible first|exact Kept.refl _ _|refine Kept.setCell ?_ (fun _=>by dsimp only;omega) _)
    ·repeat(with_reducible first|exact HK.out|refine Kept.setNew ?_ (by dsimp only;omega) _)
end
end
section
open Go.RowKit
section
attribute [local go_sem ↓] exec_app semAt_app
attribute [local go_sem] isApp_lit appA appX
theorem rs_new(n:Int)(w:World):
 Calls Tryz.prog 57 #[.int .i64 n] w fun e w'=>RefD w w' e (newD n):=by
 obtain⟨i0,hi,hz0,hz1,hz2⟩:=info_parts (show(Tryz.prog.info? 5).map (fun i=>(i.zero,i.size,i.bytes))=some (some (.int .u8 0),1,1) by kernel_rfl)
 have HI:=qh hi;have HZ0:=qh hz0;have HZ1:=qh hz1;have HZ2:=qh hz2
 clear hi hz0 hz1 hz2
 obtain⟨N,hN⟩:∃N,secsOf n=N:=⟨_,rfl⟩
 have hN1:N≤4096:=by rw[←hN];unfold secsOf;omega
 have hN2:∀i:Nat,i<N→(i:Int)<n:=by intro i h;rw[←hN]at h;unfold secsOf at h;omega
 have hN3:(N:Int)<n→N=4096:=by intro h;rw[←hN]at h ⊢;unfold secsOf at h ⊢;omega
 have hfin:newD n=⟨List.replicate N sec0,false,0, -1,false⟩:=by unfold newD;rw[hN]
 obtain⟨D,hD⟩:∃D,newD n=D:=⟨_,rfl⟩
 rw[hD]at hfin ⊢
 have HD:Hid (∀i,i=N→D=⟨List.replicate i sec0,false,0, -1,false⟩):=fun i h=>by rw[h];exact hfin
 clear hfin hN hD
 go_enter Tryz.func57,Tryz.ntmps57
 go_wp2_with(at_make;refine wpList_make_full _ rfl _ _ 32 rfl w.heap.size 5 i0 (.int .u8 0) 1 Tryz.underlying32 HI.out HZ0.out HZ1.out .i64 .i64 _ _ 256 rfl rfl rfl rfl (by rw[HZ2.out];omega) (by unfold maxLen;omega) (by simp;omega) ?_;intro w1 hown hgrow;have hcv:=conv_str _ 256 256 zeros w1 rfl (OwnN.made hown).nats;simp only[World.size_alloc]at hcv;have F1:=qh (show Fr w1 [(w.heap.size,#[.slice none 0 0,.bool false,.int .i64 0,.int .i64 0,.bool false],104),(w.heap.size+1,#[.slice none 0 0,.bool false,.int .i64 0,.int .i64 (-1),.bool false],104)]from Fr.same (w:=(w.alloc _).alloc _) ⟨(Blk.new w _ _).alloc _,Blk.new' _ _ _ (by simp),trivial⟩ ((Kept.refl _ _).grownNew hgrow (by simp)));have K1:=qh (show Same w w1 from(((Kept.refl _ w).alloc _).alloc _).grownNew hgrow (by simp));have Z1:=qh (Blk.lt F1.out.2.1);clear hown hgrow)
 clear hcv HI HZ0 HZ1 HZ2
 obtain⟨Z,hZ⟩:∃Z,strN zeros=Z:=⟨_,rfl⟩
 rw[hZ]
 have HZ:=qh hZ
 clear hZ
 go_loopw [5] (fun iv wr=>∃(i:Nat) (v:Value),iv=.int .i64 i∧i≤N∧OwnS wr (w.heap.size+1+1) v (List.replicate i sec0)∧Fr wr [(w.heap.size,#[.slice none 0 0,.bool false,.int .i64 0,.int .i64 0,.bool false],104),(w.heap.size+1,#[v,.bool false,.int .i64 0,.int .i64 (-1),.bool false],104)]∧Same w wr) (fun iv _=>N - (intOf iv).toNat)
 case atStart=>exact⟨0,.slice none 0 0,rfl,Nat.zero_le _,OwnS.nil _ _,F1.out,K1.out⟩
 case round=>
  clear F1 K1 Z1
  obtain⟨i,v,rfl,hi,ho,hf,hk⟩:=hrel
  obtain⟨a1,c1,rfl, -⟩:=ho.secs
  simp only[List.length_replicate]at*
  obtain⟨p0,f0,p1,f1, -⟩:=hf.rules
  have z0:=hf.1.lt
  have z1:=hf.2.1.lt
  have HF:=qh hf
  have HK:=qh hk
  have HO:=qh ho
  clear hf hk
  by_cases hgo:i<N
  ·have h1:=hN2 i hgo
   have h2:(i:Int)<4096:=by omega
   have kB:Same wr (wr.alloc (.cells #[.string Z,.string Z,.bool false] 155)):=(Kept.refl _ wr).alloc _
   obtain⟨v5,w5,hrun,h5,g5⟩:=app_secs (wr.alloc (.cells #[.string Z,.string Z,.bool false] 155)) (w.heap.size+1+1) (.slice a1 i c1) (List.replicate i sec0) (ho.same kB) (some ⟨wr.heap.size,0,none⟩) 1 1 [sec0] rfl (secsAt_new (x:=sec0) (by rw[show strN sec0.has=Z from HZ.out,show strN sec0.safe=Z from HZ.out];exact Blk.new wr _ _)) (fun h=>by cases h) (by simp;omega) (Nat.le_trans (by omega) kB.size)
   obtain⟨aok,aV,aW⟩:=app_of hrun
   have kg:Kept (fun j=>(Value.slice a1 i c1).ownBlock=some j) (wr.alloc (.cells #[.string Z,.string Z,.bool false] 155)) w5:=(Kept.refl _ _).grown g5 (fun k hk _=>hk)
   have f5:=((HF.out.same kB).kept kg (fun x hx q=>by have:=(ho.far _ q).1;simp at hx;rcases hx with rfl|rfl<;>simp at this<;>omega))
   have K5:=qh ((HK.out.trans kB).grownNew g5 (fun k hk=>by have:=(ho.far _ hk).1;omega))
   rw[←List.replicate_succ']at h5
   obtain⟨a5,c5,rfl, -⟩:=h5.secs
   simp only[List.length_replicate]at h5 aV
   have H5:=qh h5
   have F5:=qh f5
   obtain⟨q0,e0,q1,e1, -⟩:=f5.rules
   have y0:=f5.1.lt
   have y1:=f5.2.1.lt
   clear hrun h5 g5 kg kB ho HF HK f5
   go_wp2_with fail
   go_roundw
   case rel=>
    refine⟨i+1,.slice a5 (i+1) c5,by go_num,by omega,?_,⟨?_,?_,trivial⟩,?_⟩
    ·refine(H5.out.kept (fp:=fun j=>j<w.heap.size+1+1) ?_ (fun g hg q=>by have:=(H5.out.far g hg).1;omega))
     with_reducible refine Kept.setCell ?_ (fun _=>by dsimp only;omega) _
     with_reducible exact Kept.refl _ _
    ·with_reducible refine Blk.other ?_ (by dsimp only;omega) _
     exact F5.out.1
    ·exact F5.out.2.1.set 0 _
    ·with_reducible refine Kept.setNew ?_ (by dsimp only;omega) _
     with_reducible exact K5.out
   case measure=>simp[intOf];omega
  ·have e:i=N:=by omega
   subst e
   clear ho
   by_cases hl:(i:Int)<n
   ·have h4:=hN3 hl
    subst h4
    go_wp2_with fail
    refine bodyPost_ret (results_two rfl _ _ w.heap.size 104 #[.slice a1 (4096) c1,.bool false,.int .i64 0,.int .i64 (-1),.bool false] _ rfl ?_ Tryz.underlying104 rfl (by kernel_rfl)) rfl ?_
    ·refine Blk.set5 (v0:=.slice none 0 0) (v1:=.bool false) (v2:=.int .i64 0) (v3:=.int .i64 0) (v4:=.bool false) ?_
     repeat(with_reducible refine Blk.other ?_ (by dsimp only;omega) _)
     exact HF.out.1
    ·rw[HD.out (4096) rfl]
     refine⟨a1,c1,by rw[List.length_replicate];rfl,⟨?_,fun x hx=>by subst hx;have:=(HO.out.far x.block rfl).1;omega⟩,?_⟩
     ·refine(HO.out.kept (fp:=fun j=>j<w.heap.size+1+1) ?_ (fun g hg q=>by have:=(HO.out.far g hg).1;omega)).at
      repeat(with_reducible first|exact Kept.refl _ _|refine Kept.setCell ?_ (fun _=>by dsimp only;omega) _)
     ·repeat(with_reducible first|exact HK.out|refine Kept.setNew ?_ (by dsimp only;omega) _)
   ·go_wp2_with fail
    refine bodyPost_ret (results_two rfl _ _ w.heap.size 104 #[.slice a1 (i) c1,.bool false,.int .i64 0,.int .i64 (-1),.bool false] _ rfl ?_ Tryz.underlying104 rfl (by kernel_rfl)) rfl ?_
    ·refine Blk.set5 (v0:=.slice none 0 0) (v1:=.bool false) (v2:=.int .i64 0) (v3:=.int .i64 0) (v4:=.bool false) ?_
     repeat(with_reducible refine Blk.other ?_ (by dsimp only;omega) _)
     exact HF.out.1
    ·rw[HD.out (i) rfl]
     refine⟨a1,c1,by rw[List.length_replicate];rfl,⟨?_,fun x hx=>by subst hx;have:=(HO.out.far x.block rfl).1;omega⟩,?_⟩
     ·refine(HO.out.kept (fp:=fun j=>j<w.heap.size+1+1) ?_ (fun g hg q=>by have:=(HO.out.far g hg).1;omega)).at
      repeat(with_reducible first|exact Kept.refl _ _|refine Kept.setCell ?_ (fun _=>by dsimp only;omega) _)
     ·repeat(with_reducible first|exact HK.out|refine Kept.setNew ?_ (by dsimp only;omega) _)
end
end
section
open Go.RowKit
def RefT(w w':World)(a0:Option Addr)(e:Ending)(D:Dsk)(k:Nat):Prop:=∃a c,e=.returned (.tuple #[refV a D.s.length c D,.int .i64 (k:Nat)])∧(SecsAt w' a D.s∧(a=a0∨Far w a))∧Same w w'
theorem RefT.of{w w':World}{a:Option Addr}{c:Nat}{D:Dsk}{k:Nat}(h:SecsAt w a D.s)(kk:Same w w'):RefT w w' a (.returned (.tuple #[refV a D.s.length c D,.int .i64 (k:Nat)])) D k:=⟨a,c,rfl,⟨h.same kk,.inl rfl⟩,kk⟩
theorem rs_call2(a a':Option Addr)(c c':Nat)(D:Dsk)(s:List Sec)(hoff:D.off=false)(haft: -1≤D.after∧D.after<9223372036854775808)(w:World)(h1:SecsAt w a D.s)(h2:SecsAt w a' s):
 Calls Tryz.prog 149 #[refV a D.s.length c D,refV a' s.length c' {D with s:=s}] w fun e w'=>∃a6 c6,e=.returned (.tuple #[refV a6 (callD D s).1.s.length c6 (callD D s).1,.int .i64 ((callD D s).2:Nat)])∧(SecsAt w' a6 (callD D s).1.s∧(a6=a∨a6=a'))∧Same w w':=by
 refine(rs_call a a' D.s.length c s.length c' D s hoff haft w).mono ?_
 rintro e w' ⟨rfl,k⟩
 by_cases q:D.after=0∧D.done=false
 ·rw[if_pos q]
  have e:(callD D s).1.s=D.s:=by unfold callD;exact if_pos q
  exact⟨a,c,by rw[e],⟨by rw[e];exact h1.same k,.inl rfl⟩,k⟩
 ·rw[if_neg q]
  have e:(callD D s).1.s=s:=by unfold callD;exact if_neg q
  exact⟨a',c',by rw[e],⟨by rw[e];exact h2.same k,.inr rfl⟩,k⟩
theorem SecsAt.apart{w w':World}{a:Option Addr}{s:List Sec}{g:Nat}{cs:Array Value}{t:TypeId}(h:SecsAt w a s)(hb:Blk w g cs t)(hk:Kept (fun j=>j=g) w w')(hne:∀(i:Nat) (x:ByteArray),cs[i]? ≠some (.string x)):SecsAt w' a s:=by
 cases s with
 |nil=>exact .inl rfl
 |cons x s=>
  rcases h with h|⟨b,o,rfl,hlt,hc⟩
  ·cases h
  ·have hbg:b≠g:=by
    intro q
    subst q
    have:=(hc 0 x rfl).1
    rw[cell_blk hb]at this
    exact hne _ _ this
   have e:∀j,w'.cell? ⟨b,j,none⟩=w.cell? ⟨b,j,none⟩:=fun j=>hk.cell (p:=⟨b,j,none⟩) hlt hbg
   exact .inr ⟨b,o,rfl,Nat.lt_of_lt_of_le hlt hk.size,fun i x hx=>by rw[e,e,e];exact hc i x hx⟩
theorem nostr5(a:Option Addr)(n c:Nat)(x:Bool)(y z:Int)(u:Bool):∀(i:Nat) (v:ByteArray),(#[.slice a n c,.bool x,.int .i64 y,.int .i64 z,.bool u]:Array Value)[i]? ≠some (.string v):=by
 intro i v
 rcases i with _|_|_|_|_|i<;>simp
theorem rs_write(a:Option Addr)(n c:Nat)(D:Dsk)(hn:n=D.s.length)(hl:n≤4096)(haft: -1≤D.after∧D.after<9223372036854775808)(i:Int)(ba:Option Addr)(bl bc:Nat)(b:List Nat)(hbl:bl=b.length)(w:World)(hs:SecsAt w a D.s)(hb:NatsAt w .u8 ba b):
 Calls Tryz.prog 113 #[refV a n c D,.int .i64 i,.slice ba bl bc] w fun e w'=>RefT w w' a e (writeD D i b).1 (writeD D i b).2:=by
 subst hn
 have A:=fun w'=>rs_at a D.s.length c D rfl i w'
 obtain⟨E,hE⟩:∃E,errD D i=E:=⟨_,rfl⟩
 rw[hE]at A
 have A:=qh A
 have HS:=qh hs
 have HB:=qh hb
 by_cases h0:E=0
 ·subst h0
  by_cases h256:b.length=256
  ·obtain⟨-,hi0,hi1⟩:=errD_zero hE
   have hoff:D.off=false:=by unfold errD at hE;cases q:D.off<;>simp[q]at hE ⊢
   obtain⟨N,hN⟩:∃N:Nat,i=(N:Int):=⟨i.toNat,by omega⟩
   subst hN
   have hN:N<D.s.length:=by omega
   have er:writeD D (N:Nat) b=callD D (putS D.s N b):=by unfold writeD;rw[if_pos hE,if_pos h256,Int.toNat_natCast]
   rw[er]
   have W:=qh fun w' h=>rs_with a D.s.length c D rfl hl N hN ⟨b,(D.s.getD N sec0).safe,true⟩ w' h
   have C:=qh fun a' c' w' h1 h2=>rs_call2 a a' c c' D (putS D.s N b) hoff haft w' h1 h2
   have hx:=get_of hN
   obtain⟨x,hxx⟩:∃x,D.s.getD N sec0=x:=⟨_,rfl⟩
   rw[hxx]at hx W
   have hp:putS D.s N b=D.s.set N ⟨b,x.safe,true⟩:=by unfold putS;rw[hxx]
   rw[hp]at C ⊢
   have hN1:(N:Int)<(D.s.length:Int):=by omega
   have hN0:(0:Int)≤(N:Int):=by omega
   have hbl':bl=256:=by omega
   subst hbl'
   have hs':=hs
   rcases hs with h|⟨g,o,rfl,hgb,hc⟩
   ·rw[h]at hN;simp at hN
   have c0:=(hc N x hx).2.1
   obtain⟨D',hD'⟩:∃D',callD D (D.s.set N ⟨b,x.safe,true⟩)=D':=⟨_,rfl⟩
   have hsl:(D.s.set N ⟨b,x.safe,true⟩).length=D.s.length:=List.length_set
   rw[hD',hsl]at C
   rw[hD']
   obtain⟨s,off,calls,after,done⟩:=D
   simp only[refV]at A C W ⊢
   dsimp only at hl HS A C W hN1 ⊢
   clear hE hx hxx er hc hs' hbl hb hp hN hD' hoff hi0 hi1 hsl
   go_enter Tryz.func113,Tryz.ntmps113
   go_wp2_with fail
   refine(A.out _).mono ?_
   rintro e w3 ⟨rfl,k3⟩
   have F:=qh (Fr.same (w:=(w.alloc _).alloc _) (l:=[(w.heap.size,#[.slice (some ⟨g,o,none⟩) s.length c,.bool off,.int .i64 calls,.int .i64 after,.bool done],104),(w.heap.size+1,#[.slice none 0 0,.bool false,.int .i64 0,.int .i64 0,.bool false],104)]) ⟨(Blk.new w _ _).alloc _,Blk.new' _ _ _ (by simp),trivial⟩ k3)
   have K:=qh ((((Kept.refl (fun _=>False) w).alloc _).alloc _).trans k3)
   clear k3
   obtain⟨p0,f0,p1,f1, -⟩:=F.out.rules;have z0:=F.out.1.lt;have z1:=F.out.2.1.lt
   have c1:=(K.out.cell (p:=⟨g,o+N*3+1,none⟩) hgb (fun h=>h)).trans c0
   have QQ:Hid (∀w',Kept (fun j=>j=w.heap.size+1) w3 w'→((∀i,w'.cell? ⟨w.heap.size,i,none⟩=(#[.slice (some ⟨g,o,none⟩) s.length c,.bool off,.int .i64 calls,.int .i64 after,.bool done]:Array Value)[i]?)∧w'.cell? ⟨g,o+N*3+1,none⟩=some (.string (strN x.safe))∧(convert 32 9 (.slice ba 256 bc)).run Tryz.prog w'=.ok (.string (strN b)) w')):=fun w' k=>⟨cell_blk (F.out.1.kept k (by omega)),(k.cell (p:=⟨g,o+N*3+1,none⟩) (Nat.lt_of_lt_of_le hgb K.out.size) (by dsimp only;omega)).trans c1,conv_str ba 256 bc b w' (by omega) ((HB.out.same K.out).kept' k ((nats_lt HB.out).imp id (fun q x hx=>by have:=q x hx;omega)))⟩
   have KN:=qh (Kept.refl (fun _=>False) w3)
   clear c0 c1
   go_wp2_with fail
   go_region_held3 (fun w'=>((∀i,w'.cell? ⟨w.heap.size,i,none⟩=(#[.slice (some ⟨g,o,none⟩) s.length c,.bool off,.int .i64 calls,.int .i64 after,.bool done]:Array Value)[i]?)∧w'.cell? ⟨g,o+N*3+1,none⟩=some (.string (strN x.safe))∧(convert 32 9 (.slice ba 256 bc)).run Tryz.prog w'=.ok (.string (strN b)) w'))
    ((refine QQ.out _ ?_;repeat(with_reducible first|exact KN.out.mono (fun _ _ h=>h.elim)|refine Kept.drew ?_ |refine Kept.setG ?_ _ _)))
    (first
     |(go_at_call 107;refine(W.out _ (HS.out.same (by first|exact K.out.trans KN.out|exact K.out.trans KN.out.drew))).mono ?_;rintro e w5 ⟨a5,c5,rfl,⟨hs5,hf5⟩,k⟩;have HS5:=qh hs5;have HF5:=qh (hf5.mono (show w.heap.size≤_ from(K.out.trans KN.out).size));clear hs5 hf5;have KN':=qh (Kept.trans (by first|exact KN.out|exact KN.out.drew) k);clear KN k;have KN:=KN';clear KN';(try simp only[List.length_set]))
     |(go_at_call 149;refine(C.out _ _ _ (HS.out.same (by first|exact K.out.trans KN.out|exact K.out.trans KN.out.drew)) (by first|exact HS5.out|exact HS5.out.same (Kept.refl _ _).drew)).mono ?_;rintro e w6 ⟨a6,c6,rfl,⟨hs6,hf6⟩,k⟩;have HF6:=qh hf6;clear hf6;simp only[refV];have HS6:=qh hs6;clear hs6;have KN':=qh (Kept.trans (by first|exact KN.out|exact KN.out.drew) k);clear KN k;have KN:=KN';clear KN';obtain⟨-, -,q1,e1, -⟩:=(F.out.same KN.out).rules;have y1:=(F.out.same KN.out).2.1.lt))
   all_goals
    clear QQ
    go_wp2_with fail
    refine bodyPost_ret (results_two_tmp rfl _ _ (w.heap.size+1) 104 #[.slice a6 D'.1.s.length c6,.bool D'.1.off,.int .i64 D'.1.calls,.int .i64 D'.1.after,.bool D'.1.done] _ rfl ?_ Tryz.underlying104 rfl (by kernel_rfl)) rfl ?_
    ·refine Blk.set5 (v0:=.slice none 0 0) (v1:=.bool false) (v2:=.int .i64 0) (v3:=.int .i64 0) (v4:=.bool false) ?_
     first|exact(F.out.same KN.out).2.1|exact((F.out.same KN.out).2.1).drew|exact(((F.out.same KN.out).2.1).drew).drew
    ·have kk:=K.out.trans KN.out
     have hw:w.heap.size+1≥w.heap.size:=by omega
     refine⟨a6,c6,rfl,⟨?_,by rcases HF6.out with q|q;exact .inl q;exact .inr (by rw[q];exact HF5.out)⟩,?_⟩
     ·refine SecsAt.apart HS6.out (F.out.same KN.out).2.1 ?_ (nostr5 _ _ _ _ _ _ _)
      repeat(with_reducible first|exact Kept.refl _ _|refine Kept.drew ?_ |refine Kept.setG ?_ _ _)
     ·repeat(with_reducible first|exact kk|refine Kept.drew ?_ |refine Kept.setNew ?_ (by dsimp only;omega) _)
  ·have er:writeD D i b=(D,2):=by unfold writeD;rw[if_pos hE,if_neg h256]
   rw[er]
   have hbl':¬(bl:Int)=256:=by omega
   obtain⟨s,off,calls,after,done⟩:=D
   clear hE er hs hb hbl
   simp only[refV]at A ⊢
   dsimp only at hl HS A ⊢
   go_enter Tryz.func113,Tryz.ntmps113
   go_wp2_with fail
   refine(A.out _).mono ?_
   rintro e w3 ⟨rfl,k3⟩
   have F:=qh (Fr.same (w:=(w.alloc _).alloc _) (l:=[(w.heap.size,#[.slice a s.length c,.bool off,.int .i64 calls,.int .i64 after,.bool done],104),(w.heap.size+1,#[.slice none 0 0,.bool false,.int .i64 0,.int .i64 0,.bool false],104)]) ⟨(Blk.new w _ _).alloc _,Blk.new' _ _ _ (by simp),trivial⟩ k3)
   have K:=qh ((((Kept.refl (fun _=>False) w).alloc _).alloc _).trans k3)
   clear k3
   obtain⟨p0,f0,p1,f1, -⟩:=F.out.rules;have z0:=F.out.1.lt;have z1:=F.out.2.1.lt
   go_wp2_with fail
   refine bodyPost_ret (results_two_tmp rfl _ _ (w.heap.size+1) 104 #[.slice a s.length c,.bool off,.int .i64 calls,.int .i64 after,.bool done] _ rfl ?_ Tryz.underlying104 rfl (by kernel_rfl)) rfl ?_
   ·refine Blk.set5 (v0:=.slice none 0 0) (v1:=.bool false) (v2:=.int .i64 0) (v3:=.int .i64 0) (v4:=.bool false) ?_
    exact F.out.2.1
   ·refine RefT.of (D:=⟨s,off,calls,after,done⟩) HS.out ?_
    repeat(with_reducible first|exact K.out|refine Kept.setNew ?_ (by dsimp only;omega) _)
 ·have er:writeD D i b=(D,E):=by unfold writeD;rw[if_neg (by rw[hE];exact h0),hE]
  rw[er]
  have h0':¬(E:Int)=0:=by omega
  obtain⟨s,off,calls,after,done⟩:=D
  clear hE er hs hb hbl
  simp only[refV]at A ⊢
  dsimp only at hl HS A ⊢
  go_enter Tryz.func113,Tryz.ntmps113
  go_wp2_with fail
  refine(A.out _).mono ?_
  rintro e w3 ⟨rfl,k3⟩
  have F:=qh (Fr.same (w:=(w.alloc _).alloc _) (l:=[(w.heap.size,#[.slice a s.length c,.bool off,.int .i64 calls,.int .i64 after,.bool done],104),(w.heap.size+1,#[.slice none 0 0,.bool false,.int .i64 0,.int .i64 0,.bool false],104)]) ⟨(Blk.new w _ _).alloc _,Blk.new' _ _ _ (by simp),trivial⟩ k3)
  have K:=qh ((((Kept.refl (fun _=>False) w).alloc _).alloc _).trans k3)
  clear k3
  obtain⟨p0,f0,p1,f1, -⟩:=F.out.rules;have z0:=F.out.1.lt;have z1:=F.out.2.1.lt
  go_wp2_with fail
  refine bodyPost_ret (results_two_tmp rfl _ _ (w.heap.size+1) 104 #[.slice a s.length c,.bool off,.int .i64 calls,.int .i64 after,.bool done] _ rfl ?_ Tryz.underlying104 rfl (by kernel_rfl)) rfl ?_
  ·refine Blk.set5 (v0:=.slice none 0 0) (v1:=.bool false) (v2:=.int .i64 0) (v3:=.int .i64 0) (v4:=.bool false) ?_
   exact F.out.2.1
  ·refine RefT.of (D:=⟨s,off,calls,after,done⟩) HS.out ?_
   repeat(with_reducible first|exact K.out|refine Kept.setNew ?_ (by dsimp only;omega) _)
end
section
open Go.RowKit
def FatesV(w:World)(v:Value)(f:List Nat):Prop:=∃a l c,v=.slice a l c∧l=f.length∧l≤c∧NatsAt w .u8 a f
theorem FatesV.same{w w':World}{v:Value}{f:List Nat}(h:FatesV w v f)(k:Same w w'):FatesV w' v f:=by
 obtain⟨a,l,c,h1,h2,h3,h4⟩:=h
 exact⟨a,l,c,h1,h2,h3,h4.same k⟩
theorem rs_take(w:World)(v:Value)(f:List Nat)(h:FatesV w v f)(hf:Bts f):
 Calls Tryz.prog 106 #[v] w fun e w'=>(∃v',e=.returned (.tuple #[.int .u8 ((take1 f).1:Nat),v'])∧FatesV w' v' (take1 f).2)∧Same w w':=by
 obtain⟨a,l,c,rfl,hl,hc,hat⟩:=h
 cases f with
 |nil=>
  simp at hl
  subst hl
  go_enter Tryz.func106,Tryz.ntmps106
  go_wp2_with fail
  go_ret2
  exact⟨⟨_,rfl,none,0,0,rfl,rfl,Nat.le_refl _,.inl rfl⟩,Kept.refl _ _⟩
 |cons x r=>
  obtain⟨pb,po,x',rfl,hpb,hxi,hcx⟩:=hat.at (i:=0) (by simp)
  simp at hxi
  subst hxi
  rw[Nat.add_zero]at hcx
  have hx:=hf x (by simp)
  have hl0:0<l:=by rw[hl];simp
  have hl1:¬(l:Int)=0:=by omega
  have hl2:(0:Int)<(l:Int):=by omega
  have hl3:(1:Int)≤(l:Int):=by omega
  have HL:=qh hl;have AT:=qh hat
  clear hl hat hf
  go_enter Tryz.func106,Tryz.ntmps106
  go_wp2_with fail
  go_region
  all_goals go_wp2_with fail
  all_goals
   go_ret2
   have hl':=HL.out
   rw[List.length_cons]at hl'
   have kk:Same w w.drew:=(Kept.refl _ _).drew
   refine⟨⟨_,rfl,_,_,_,rfl,(show l - 1=r.length from by omega),by omega,?_⟩,by repeat(first|exact Kept.refl _ _|with_reducible refine Kept.drew ?_)⟩
   refine NatsAt.same (w:=w) ?_ (by repeat(first|exact Kept.refl _ _|with_reducible refine Kept.drew ?_))
   first
    |exact nats_tail AT.out
    |exact .inl (List.eq_nil_of_length_eq_zero (show r.length=0 from by omega))
theorem rs_sync(a:Option Addr)(n c:Nat)(D:Dsk)(hn:n=D.s.length)(hl:n≤4096)(haft: -1≤D.after∧D.after<9223372036854775808)(w:World)(hs:SecsAt w a D.s):
 Calls Tryz.prog 110 #[refV a n c D] w fun e w'=>RefT w w' a e (syncD D).1 (syncD D).2:=by
 subst hn
 have HS:=qh hs
 cases hoff:D.off
 ·have er:syncD D=callD D (settle D.s):=by unfold syncD;rw[hoff];rfl
  rw[er]
  have W:=qh fun w' h=>rs_safe a D.s.length c D rfl hl w' h
  have C:=qh fun a' c' w' h1 h2=>rs_call2 a a' c c' D (settle D.s) hoff haft w' h1 h2
  obtain⟨D',hD'⟩:∃D',callD D (settle D.s)=D':=⟨_,rfl⟩
  have hsl:(settle D.s).length=D.s.length:=settle_len _
  rw[hD',hsl]at C
  rw[hD']
  obtain⟨s,off,calls,after,done⟩:=D
  dsimp only at hoff
  subst hoff
  simp only[refV]at C W ⊢
  dsimp only at hl HS C W ⊢
  clear hs hD' hsl er
  go_enter Tryz.func110,Tryz.ntmps110
  go_wp2_with fail
  have F:=qh (show Fr ((w.alloc (.cells #[.slice a s.length c,.bool false,.int .i64 calls,.int .i64 after,.bool done] 104)).alloc (.cells #[.slice none 0 0,.bool false,.int .i64 0,.int .i64 0,.bool false] 104)) [(w.heap.size,#[.slice a s.length c,.bool false,.int .i64 calls,.int .i64 after,.bool done],104),(w.heap.size+1,#[.slice none 0 0,.bool false,.int .i64 0,.int .i64 0,.bool false],104)]from⟨(Blk.new w _ _).alloc _,Blk.new' _ _ _ (by simp),trivial⟩)
  have K:=qh (show Same w ((w.alloc (.cells #[.slice a s.length c,.bool false,.int .i64 calls,.int .i64 after,.bool done] 104)).alloc (.cells #[.slice none 0 0,.bool false,.int .i64 0,.int .i64 0,.bool false] 104))from((Kept.refl _ w).alloc _).alloc _)
  generalize hw3:(w.alloc (.cells #[.slice a s.length c,.bool false,.int .i64 calls,.int .i64 after,.bool done] 104)).alloc (.cells #[.slice none 0 0,.bool false,.int .i64 0,.int .i64 0,.bool false] 104)=w3 at*
  clear hw3
  obtain⟨p0,f0,p1,f1, -⟩:=F.out.rules;have z0:=F.out.1.lt;have z1:=F.out.2.1.lt
  have QQ:Hid (∀w',Kept (fun j=>j=w.heap.size+1) w3 w'→(∀i,w'.cell? ⟨w.heap.size,i,none⟩=(#[.slice a s.length c,.bool false,.int .i64 calls,.int .i64 after,.bool done]:Array Value)[i]?)):=fun w' k=>cell_blk (F.out.1.kept k (by omega))
  have KN:=qh (Kept.refl (fun _=>False) w3)
  go_region_held3 (fun w'=>(∀i,w'.cell? ⟨w.heap.size,i,none⟩=(#[.slice a s.length c,.bool false,.int .i64 calls,.int .i64 after,.bool done]:Array Value)[i]?))
   ((refine QQ.out _ ?_;repeat(with_reducible first|exact KN.out.mono (fun _ _ h=>h.elim)|refine Kept.drew ?_ |refine Kept.setG ?_ _ _)))
   (first
    |(go_at_call 108;refine(W.out _ (HS.out.same (by first|exact K.out.trans KN.out|exact K.out.trans KN.out.drew))).mono ?_;rintro e w5 ⟨a5,c5,rfl,⟨hs5,hf5⟩,k⟩;have HS5:=qh hs5;have HF5:=qh (hf5.mono (show w.heap.size≤_ from(K.out.trans KN.out).size));clear hs5 hf5;have KN':=qh (Kept.trans (by first|exact KN.out|exact KN.out.drew) k);clear KN k;have KN:=KN';clear KN';(try simp only[settle_len]))
    |(go_at_call 149;refine(C.out _ _ _ (HS.out.same (by first|exact K.out.trans KN.out|exact K.out.trans KN.out.drew)) (by first|exact HS5.out|exact HS5.out.same (Kept.refl _ _).drew)).mono ?_;rintro e w6 ⟨a6,c6,rfl,⟨hs6,hf6⟩,k⟩;have HF6:=qh hf6;clear hf6;simp only[refV];have HS6:=qh hs6;clear hs6;have KN':=qh (Kept.trans (by first|exact KN.out|exact KN.out.drew) k);clear KN k;have KN:=KN';clear KN';obtain⟨-, -,q1,e1, -⟩:=(F.out.same KN.out).rules;have y1:=(F.out.same KN.out).2.1.lt))
  all_goals
   clear QQ
   go_wp2_with fail
   refine bodyPost_ret (results_two_tmp rfl _ _ (w.heap.size+1) 104 #[.slice a6 D'.1.s.length c6,.bool D'.1.off,.int .i64 D'.1.calls,.int .i64 D'.1.after,.bool D'.1.done] _ rfl ?_ Tryz.underlying104 rfl (by kernel_rfl)) rfl ?_
   ·refine Blk.set5 (v0:=.slice none 0 0) (v1:=.bool false) (v2:=.int .i64 0) (v3:=.int .i64 0) (v4:=.bool false) ?_
    first|exact(F.out.same KN.out).2.1|exact((F.out.same KN.out).2.1).drew|exact(((F.out.same KN.out).2.1).drew).drew
   ·have kk:=K.out.trans KN.out
    have hw:w.heap.size+1≥w.heap.size:=by omega
    refine⟨a6,c6,rfl,⟨?_,by rcases HF6.out with q|q;exact .inl q;exact .inr (by rw[q];exact HF5.out)⟩,?_⟩
    ·refine SecsAt.apart HS6.out (F.out.same KN.out).2.1 ?_ (nostr5 _ _ _ _ _ _ _)
     repeat(with_reducible first|exact Kept.refl _ _|refine Kept.drew ?_ |refine Kept.setG ?_ _ _)
    ·repeat(with_reducible first|exact kk|refine Kept.drew ?_ |refine Kept.setNew ?_ (by dsimp only;omega) _)
 ·have er:syncD D=(D,8):=by unfold syncD;rw[hoff];rfl
  rw[er]
  obtain⟨s,off,calls,after,done⟩:=D
  dsimp only at hoff
  subst hoff
  simp only[refV]
  clear er hs
  go_enter Tryz.func110,Tryz.ntmps110
  go_wp2_with fail
  refine bodyPost_ret (results_two_tmp rfl _ _ _ _ _ _ rfl (Blk.new' _ _ _ (by simp)) Tryz.underlying104 rfl (by kernel_rfl)) rfl ?_
  exact RefT.of (D:=⟨s,true,calls,after,done⟩) HS.out (((Kept.refl _ w).alloc _).alloc _)
theorem waits_snoc(s:List Sec)(i:Nat):(List.range (i+1)).filter (waitsAt s)=(List.range i).filter (waitsAt s)++(if waitsAt s i then [i]else []):=by
 rw[List.range_succ,List.filter_append]
 congr 1
 cases h:waitsAt s i
 ·rw[List.filter_cons_of_neg (by simp[h])];rfl
 ·rw[List.filter_cons_of_pos h];rfl
section
attribute [local go_sem ↓] exec_app semAt_app
attribute [local go_sem] isApp_lit appA appX
theorem rs_waits(a:Option Addr)(n c:Nat)(D:Dsk)(hn:n=D.s.length)(hl:n≤4096)(w:World)(hs:SecsAt w a D.s):
 Calls Tryz.prog 97 #[refV a n c D] w fun e w'=>(∃v,e=.returned v∧OwnN w' w.heap.size 3 .i64 v (waitsOf D.s))∧Same w w':=by
 obtain⟨s,off,calls,after,done⟩:=D
 simp only[refV]
 dsimp only at hn hs ⊢
 subst hn
 have HS:=qh hs
 clear hs
 go_enter Tryz.func97,Tryz.ntmps97
 go_wp2_with fail
 go_loopw [3,4] (fun lv iv wr=>∃i:Nat,iv=.int .i64 i∧i≤s.length∧OwnN wr (w.heap.size+1) 3 .i64 lv ((List.range i).filter (waitsAt s))∧Fr wr [(w.heap.size,#[.slice a s.length c,.bool off,.int .i64 calls,.int .i64 after,.bool done],104)]∧Same w wr) (fun _ iv _=>s.length - (intOf iv).toNat)
 case atStart=>exact⟨0,rfl,Nat.zero_le _,⟨rfl,.inl ⟨rfl,rfl⟩⟩,⟨Blk.new w _ _,trivial⟩,(Kept.refl _ w).alloc _⟩
 case round=>
  obtain⟨i,rfl,hi,ho,hf,hk⟩:=hrel
  have hs:=HS.out.same hk
  obtain⟨p0,f0, -⟩:=hf.rules
  have z0:=hf.1.lt
  have HF:=qh hf
  have HK:=qh hk
  clear hf hk
  by_cases hgo:i<s.length
  ·have hx:=get_of hgo
   obtain⟨x,hxx⟩:∃x,s.getD i sec0=x:=⟨_,rfl⟩
   rw[hxx]at hx
   rcases hs with h|⟨b,o,rfl,hb,hc⟩
   ·subst h;simp at hgo
   have c0:=(hc i x hx).2.2
   have ln:(i:Int)<(s.length:Int):=by omega
   have ln0:(0:Int)≤(i:Int):=by omega
   have hwt:waitsAt s i=x.waits:=by unfold waitsAt;rw[hxx]
   have hsn:=waits_snoc s i
   rw[hwt]at hsn
   have hlen:((List.range i).filter (waitsAt s)).length≤i:=by have:=List.length_filter_le (waitsAt s) (List.range i);rw[List.length_range]at this;exact this
   obtain⟨l0,hl0⟩:∃l0,(List.range i).filter (waitsAt s)=l0:=⟨_,rfl⟩
   rw[hl0]at hsn ho hlen
   have SN:=qh hsn
   cases hw:x.waits
   ·rw[hw]at c0
    have HO:=qh ho
    clear hc ho hwt hsn hxx hx hl0
    go_wp2_with fail
    go_roundw
    case rel=>exact⟨i+1,by go_num,by omega,by rw[SN.out,hw];simpa using HO.out,HF.out,HK.out⟩
    case measure=>simp[intOf];omega
   ·rw[hw]at c0
    have kB:Same wr (wr.alloc (.cells #[.int .i64 i] 3)):=(Kept.refl _ wr).alloc _
    obtain⟨v5,w5,hrun,h5,g5, -⟩:=app_facts (P:=Tryz.prog) (wr.alloc (.cells #[.int .i64 i] 3)) 88 88 (w.heap.size+1) 3 .i64 8 Tryz.underlying88 (by kernel_rfl) (by decide) u3 l0 (ho.same kB) (some ⟨wr.heap.size,0,none⟩) 1 1 [i] rfl (.inr ⟨wr.heap.size,0,rfl,by simp,fun j u hu=>by rcases j with _|j;(· simp at hu;subst hu;exact(Blk.new wr _ _).cell 0 rfl);(· simp at hu)⟩) (fun h=>by cases h) (by simp;omega) (Nat.le_trans (by omega) kB.size)
    obtain⟨aok,aV,aW⟩:=app_of hrun
    have kg:Kept (fun j=>u3.ownBlock=some j) (wr.alloc (.cells #[.int .i64 i] 3)) w5:=(Kept.refl _ _).grown g5 (fun k hk _=>hk)
    have F5:=qh ((HF.out.same kB).kept kg (fun x hx q=>by have:=(World.ownsRow.lt ho _ q).1;simp at hx;subst hx;simp at this;omega))
    have K5:=qh ((HK.out.trans kB).grownNew g5 (fun k hk=>by have:=(World.ownsRow.lt ho _ hk).1;omega))
    have H5:=qh h5
    clear hc hrun h5 g5 kg kB ho HF HK hwt hsn hxx hx hl0
    go_wp2_with fail
    go_roundw
    case rel=>exact⟨i+1,by go_num,by omega,by rw[SN.out,hw];exact H5.out,F5.out,K5.out⟩
    case measure=>simp[intOf];omega
  ·have e:i=s.length:=by omega
   subst e
   have HO:=qh ho
   clear ho hs
   go_wp2_with fail
   go_ret
   exact⟨⟨_,rfl,HO.out.base (by omega)⟩,HK.out⟩
end
end
section
open Go.RowKit
theorem strN_size(l:List Nat):(strN l).size=l.length:=by simp[strN,ByteArray.size]
theorem strN_cut(l:List Nat)(i j:Nat):(strN l).extract i j=strN ((l.take j).drop i):=by
 apply ByteArray.ext
 rw[ByteArray.data_extract]
 simp only[strN]
 rw[List.extract_toArray,List.extract_eq_take_drop,List.map_drop,List.map_take,List.drop_take]
theorem strN_app(l m:List Nat):strN l++strN m=strN (l++m):=by
 apply ByteArray.ext
 simp[strN,ByteArray.data_append]
def powTo(s:List Sec)(f:List Nat)(i:Nat):List Sec×List Nat:=(List.range i).foldl powStep (s,f)
theorem powTo_succ(s:List Sec)(f:List Nat)(i:Nat):powTo s f (i+1)=powStep (powTo s f i) i:=by unfold powTo;rw[List.range_succ,List.foldl_append];rfl
theorem powTo_I{s:List Sec}{f:List Nat}(h:∀x∈s,x.OK)(hf:Bts f)(i:Nat):PowI s (powTo s f i):=by
 induction i with
 |zero=>exact PowI.start h hf
 |succ i ih=>
  rw[powTo_succ]
  unfold powStep
  split
  ·rename_i q;exact ih.step (by rw[←ih.waits];exact q)
  ·exact ih
theorem powTo_all(s:List Sec)(f:List Nat):settle (powTo s f s.length).1=powS s f:=(powS_all s f).symm
theorem FatesV.apart{w w':World}{v:Value}{f:List Nat}{g:Nat}{cs:Array Value}{t:TypeId}(h:FatesV w v f)(hb:Blk w g cs t)(hk:Kept (fun j=>j=g) w w')(hne:∀(i:Nat) (x:Int),cs[i]? ≠some (.int .u8 x)):FatesV w' v f:=by
 obtain⟨a,l,c,h1,h2,h3,h4⟩:=h
 exact⟨a,l,c,h1,h2,h3,h4.apart hb hk hne⟩
theorem nou8_5(a:Option Addr)(n c:Nat)(x:Bool)(y z:Int)(u:Bool):∀(i:Nat) (v:Int),(#[.slice a n c,.bool x,.int .i64 y,.int .i64 z,.bool u]:Array Value)[i]? ≠some (.int .u8 v):=by
 intro i v
 rcases i with _|_|_|_|_|i<;>simp
theorem nou8_3(a b:ByteArray)(u:Bool):∀(i:Nat) (v:Int),(#[.string a,.string b,.bool u]:Array Value)[i]? ≠some (.int .u8 v):=by
 intro i v
 rcases i with _|_|_|i<;>simp
theorem tmod4_nat(q:Nat):(q:Int).tmod 4=((q % 4:Nat):Int):=by rw[Int.tmod_eq_emod_of_nonneg (by omega)];omega
theorem powF_set(ss:List Sec)(fs:List Nat)(i:Nat){x:Sec}(hx:ss.getD i sec0=x){k:Nat}{r:List Nat}(hk:keepOf fs=(k,r)):powF (ss,fs) i=(ss.set i (powOne x k),r):=by
 unfold powF
 dsimp only
 rw[hk,hx]
theorem rs_power(a:Option Addr)(n c:Nat)(D:Dsk)(hn:n=D.s.length)(hok:D.OK)(v:Value)(f:List Nat)(hf:Bts f)(w:World)(hs:SecsAt w a D.s)(hv:FatesV w v f):
 Calls Tryz.prog 63 #[refV a n c D,v] w fun e w'=>RefD w w' e (powerD D f):=by
 subst hn
 have hl:=hok.few
 have hi0:=fun i=>powTo_I hok.secs hf i
 obtain⟨s,off,calls,after,done⟩:=D
 simp only[refV]
 dsimp only at hs hl hi0 ⊢
 have PI:=qh hi0
 have HS:=qh hs;have HV:=qh hv
 clear hs hv hok hi0
 go_enter Tryz.func63,Tryz.ntmps63
 go_wp2_with fail
 go_loopw [1,5] (fun fv iv wr=>∃(i:Nat) (a':Option Addr) (c':Nat),iv=.int .i64 i∧i≤s.length∧FatesV wr fv (powTo s f i).2∧SecsAt wr a' (powTo s f i).1∧
  Fr wr [(w.heap.size,#[.slice a' s.length c',.bool off,.int .i64 calls,.int .i64 after,.bool done],104),(w.heap.size+1,#[.slice none 0 0,.bool false,.int .i64 0,.int .i64 0,.bool false],104)]∧Same w wr) (fun _ iv _=>s.length - (intOf iv).toNat)
 case atStart=>exact⟨0,a,c,rfl,Nat.zero_le _,HV.out.same (((Kept.refl _ w).alloc _).alloc _),HS.out.same (((Kept.refl _ w).alloc _).alloc _),⟨(Blk.new w _ _).alloc _,Blk.new' _ _ _ (by simp),trivial⟩,((Kept.refl _ w).alloc _).alloc _⟩
 case round=>
  clear HV HS
  obtain⟨i,a',c',rfl,hi,hfv,hse,hfr,hk⟩:=hrel
  have pi:=PI.out i
  have ps:=powTo_succ s f i
  have plen:=pi.len
  obtain⟨st,hst⟩:∃st,powTo s f i=st:=⟨_,rfl⟩
  rw[hst]at hfv hse pi ps plen
  obtain⟨ss,fs⟩:=st
  dsimp only at hfv hse plen
  have PS:=qh ps;have PL:=qh plen;have PF:=qh pi.fates;have POK:=qh pi.ok
  have HF:=qh hfr;have HK:=qh hk;have HV:=qh hfv;have HSE:=qh hse
  obtain⟨p0,f0,p1,f1, -⟩:=hfr.rules
  have z0:=hfr.1.lt
  have z1:=hfr.2.1.lt
  have HST:=qh hst
  clear pi ps plen hfr hk hfv hst
  by_cases hgo:i<s.length
  ·have hx:=get_of (s:=ss) (n:=i) (by rw[PL.out];exact hgo)
   have hxk:=getD_ok POK.out i
   obtain⟨x,hxx⟩:∃x,ss.getD i sec0=x:=⟨_,rfl⟩
   have HXX:=qh hxx
   rw[hxx]at hx hxk
   have hw:waitsAt ss i=x.waits:=by unfold waitsAt;rw[hxx]
   have HW:=qh hw
   rcases hse with h|⟨b,o,rfl,hb,hc⟩
   ·subst h;simp at hx
   have c0:=(hc i x hx).1
   have c1:=(hc i x hx).2.1
   have c2:=(hc i x hx).2.2
   have ln:(i:Int)<(s.length:Int):=by omega
   have ln0:(0:Int)≤(i:Int):=by omega
   clear hc hx hw
   have WW:Hid (∀(y:Sec) (Z1 Z2:ByteArray),Z1=strN y.has→Z2=strN y.safe→∀w',SecsAt w' (some ⟨b,o,none⟩) ss→Calls Tryz.prog 107 #[.agg #[.slice (some ⟨b,o,none⟩) s.length c',.bool off,.int .i64 calls,.int .i64 after,.bool done],.int .i64 i,.agg #[.string Z1,.string Z2,.bool y.waits]] w' fun e w''=>
    ∃a5 c5,e=.returned (.agg #[.slice a5 s.length c5,.bool off,.int .i64 calls,.int .i64 after,.bool done])∧SecsAt w'' a5 (ss.set i y)∧Same w' w''):=by
    intro y Z1 Z2 h1 h2 w' h
    subst h1 h2
    refine(rs_with (some ⟨b,o,none⟩) s.length c' ⟨ss,off,calls,after,done⟩ PL.out.symm hl i (by rw[PL.out];exact hgo) y w' h).mono ?_
    rintro e w'' ⟨a5,c5,rfl,⟨h5, -⟩,k5⟩
    exact⟨a5,c5,by simp only[refV,List.length_set];rw[PL.out],h5,k5⟩
   obtain⟨H,hH⟩:∃H,strN x.has=H:=⟨_,rfl⟩
   obtain⟨S,hS⟩:∃S,strN x.safe=S:=⟨_,rfl⟩
   have HZH:=qh hH.symm;have HZS:=qh hS.symm
   rw[hH]at c0
   rw[hS]at c1
   have sH:H.size=256:=by rw[←hH,strN_size,hxk.hasL]
   have sS:S.size=256:=by rw[←hS,strN_size,hxk.safeL]
   have SH:=qh sH;have SS:=qh sS;have XK:=qh hxk
   clear hH hS sH sS hxk
   cases hwt:x.waits
   ·rw[hwt]at c2
    have PS9:Hid (powTo s f (i+1)=(ss,fs)):=by
     refine PS.out.trans ?_
     unfold powStep
     rw[show waitsAt (ss,fs).1 i=false from HW.out.trans hwt]
     rfl
    clear WW hxx
    go_wp2_with fail
    go_roundw
    case rel=>
     have kB:Same wr (wr.alloc (.cells #[.string H,.string S,.bool false] 155)):=(Kept.refl _ wr).alloc _
     exact⟨i+1,_,_,by go_num,by omega,by rw[PS9.out];exact HV.out.same kB,by rw[PS9.out];exact HSE.out.same kB,HF.out.same kB,HK.out.trans kB⟩
    case measure=>simp[intOf];omega
   ·rw[hwt]at c2
    have KB:Hid (Same wr (wr.alloc (.cells #[.string H,.string S,.bool true] 155))):=(Kept.refl _ wr).alloc _
    have PSF:Hid (powTo s f (i+1)=powF (ss,fs) i):=by
     refine PS.out.trans ?_
     unfold powStep
     rw[show waitsAt (ss,fs).1 i=true from HW.out.trans hwt]
     rfl
    have ht:=tmod4_nat (take1 fs).1
    obtain⟨r,hr⟩:∃r,(take1 fs).1 % 4=r:=⟨_,rfl⟩
    rw[hr]at ht
    have RT:=qh fun w'=>rs_take w' u1 fs
    have kp:keepOf fs=if r=2 then(256,(take1 fs).2)else if r=3 then take1 (take1 fs).2 else(0,(take1 fs).2):=by unfold keepOf;rw[hr]
    have tb:=take1_bts PF.out
    dsimp only at tb
    obtain⟨T,hT⟩:∃T,(take1 fs).1=T:=⟨_,rfl⟩
    obtain⟨R,hR⟩:∃R,(take1 fs).2=R:=⟨_,rfl⟩
    rw[hR]at kp
    rw[hT]at ht
    rw[hT,hR]at tb
    simp only[hT,hR]at RT
    have hT256:=tb.1
    have TB:=qh tb.2
    have yx:∀k,powOne x k=⟨x.has.take k++x.safe.drop k,x.safe,true⟩:=fun k=>by unfold powOne;rw[hwt]
    have HXX2:=qh hxx
    clear hr hT hR tb PS hxx
    by_cases h2:r=2
    ·subst h2
     have PS9:Hid (powTo s f (i+1)=(ss.set i ⟨x.has,x.safe,true⟩,R)):=by
      refine PSF.out.trans ?_
      rw[powF_set ss fs i HXX2.out (kp.trans (if_pos rfl)),yx,List.take_of_length_le (by rw[XK.out.hasL];omega),List.drop_eq_nil_of_le (by rw[XK.out.safeL];omega),List.append_nil]
     clear kp yx PSF
     go_wp2_with fail
     refine(RT.out _ (HV.out.same KB.out) PF.out).mono ?_
     rintro e w3 ⟨⟨v9,rfl,fv9⟩,k3⟩
     have KR:=qh (show Same wr w3 from KB.out.trans k3)
     have B6:=qh (show Blk w3 wr.heap.size #[.string H,.string S,.bool true] 155 from(Blk.new wr _ _).kept k3 (fun h=>h))
     have FV9:=qh fv9
     have zw0:w.heap.size<wr.heap.size:=z0
     have zw1:w.heap.size+1<wr.heap.size:=z1
     clear p0 f0 z0 p1 f1 z1
     obtain⟨p0,f0,p1,f1, -⟩:=(HF.out.same KR.out).rules
     have z0:=(HF.out.same KR.out).1.lt
     have z1:=(HF.out.same KR.out).2.1.lt
     have p6:=cell_blk B6.out
     have f6:=fun i=>B6.out.free i
     have z6:=B6.out.lt
     clear k3 fv9 KB
     go_wp2_with fail
     refine(WW.out ⟨x.has,x.safe,true⟩ _ _ HZH.out HZS.out _ (HSE.out.same (by repeat(with_reducible first|exact KR.out|refine Kept.drew ?_ |refine Kept.setNew ?_ (by dsimp only;omega) _)))).mono ?_
     rintro e w5 ⟨a5,c5,rfl,hs5,k5⟩
     have KR5:=qh (show Same wr w5 from Kept.trans (by repeat(with_reducible first|exact KR.out|refine Kept.drew ?_ |refine Kept.setNew ?_ (by dsimp only;omega) _)) k5)
     have V5:=qh (show FatesV w5 v9 R from FatesV.same (FatesV.apart FV9.out B6.out (by repeat(with_reducible first|exact Kept.refl _ _|refine Kept.drew ?_ |refine Kept.setG ?_ _ _)) (nou8_3 _ _ _)) k5)
     have HS5:=qh hs5
     clear hs5 k5 KR p0 f0 z0 p1 f1 z1 B6 FV9
     have FF:=HF.out.same KR5.out
     obtain⟨p0,f0,p1,f1, -⟩:=FF.rules
     have z0:=FF.1.lt
     have z1:=FF.2.1.lt
     have HFF:=qh FF
     clear FF HF
     go_wp2_with fail
     go_roundw
     case rel=>
      have hbk:Blk w5 w.heap.size #[.slice (some ⟨b,o,none⟩) s.length c',.bool off,.int .i64 calls,.int .i64 after,.bool done] 104:=HFF.out.1
      have hbk1:Blk w5 (w.heap.size+1) #[.slice none 0 0,.bool false,.int .i64 0,.int .i64 0,.bool false] 104:=HFF.out.2.1
      refine⟨i+1,a5,c5,by go_num,by omega,?_,?_,⟨?_,?_,trivial⟩,?_⟩
      ·rw[PS9.out]
       refine FatesV.apart V5.out hbk ?_ (nou8_5 _ _ _ _ _ _ _)
       repeat(with_reducible first|exact Kept.refl _ _|refine Kept.drew ?_ |refine Kept.setG ?_ _ _)
      ·rw[PS9.out]
       refine SecsAt.apart HS5.out hbk ?_ (nostr5 _ _ _ _ _ _ _)
       repeat(with_reducible first|exact Kept.refl _ _|refine Kept.drew ?_ |refine Kept.setG ?_ _ _)
      ·exact Blk.set5 hbk
      ·repeat(with_reducible first|exact hbk1|refine Blk.other ?_ (by dsimp only;omega) _)
      ·repeat(with_reducible first|exact HK.out.trans KR5.out|refine Kept.setNew ?_ (by dsimp only;omega) _)
     case measure=>simp[intOf];omega
    ·by_cases h3:r=3
     ·subst h3
      have tb2:=take1_bts TB.out
      obtain⟨M,hM⟩:∃M,(take1 R).1=M:=⟨_,rfl⟩
      obtain⟨R2,hR2⟩:∃R2,(take1 R).2=R2:=⟨_,rfl⟩
      have hMR:take1 R=(M,R2):=by rw[←hM,←hR2]
      rw[hM,hR2]at tb2
      have PS9:Hid (powTo s f (i+1)=(ss.set i ⟨x.has.take M++x.safe.drop M,x.safe,true⟩,R2)):=by
       refine PSF.out.trans ?_
       rw[powF_set ss fs i HXX2.out (kp.trans ((if_neg (by decide)).trans ((if_pos rfl).trans hMR))),yx]
      have hM256:=tb2.1
      have HMR:=qh hMR
      have hM0:(0:Int)≤(M:Int):=by omega
      clear kp yx PSF h2 hM hR2 tb2 hMR
      go_wp2_with fail
      refine(RT.out _ (HV.out.same KB.out) PF.out).mono ?_
      rintro e w3 ⟨⟨v9,rfl,fv9⟩,k3⟩
      have KR:=qh (show Same wr w3 from KB.out.trans k3)
      have B6:=qh (show Blk w3 wr.heap.size #[.string H,.string S,.bool true] 155 from(Blk.new wr _ _).kept k3 (fun h=>h))
      have FV9:=qh fv9
      have zw0:w.heap.size<wr.heap.size:=z0
      have zw1:w.heap.size+1<wr.heap.size:=z1
      clear p0 f0 z0 p1 f1 z1
      obtain⟨p0,f0,p1,f1, -⟩:=(HF.out.same KR.out).rules
      have z0:=(HF.out.same KR.out).1.lt
      have z1:=(HF.out.same KR.out).2.1.lt
      have p6:=cell_blk B6.out
      have f6:=fun i=>B6.out.free i
      have z6:=B6.out.lt
      clear k3 fv9 KB
      go_wp2_with fail
      refine(rs_take w3 v9 R FV9.out TB.out).mono ?_
      rw[HMR.out]
      rintro e w4 ⟨⟨v8,rfl,fv8⟩,k4⟩
      have KR':=qh (show Same wr w4 from KR.out.trans k4)
      have B6':=qh (show Blk w4 wr.heap.size #[.string H,.string S,.bool true] 155 from B6.out.kept k4 (fun h=>h))
      clear KR B6 FV9 p6 f6 z6 p0 f0 z0 p1 f1 z1
      have KR:=KR'
      have B6:=B6'
      have FV9:=qh fv8
      clear KR' B6' fv8 k4
      obtain⟨p0,f0,p1,f1, -⟩:=(HF.out.same KR.out).rules
      have z0:=(HF.out.same KR.out).1.lt
      have z1:=(HF.out.same KR.out).2.1.lt
      have p6:=cell_blk B6.out
      have f6:=fun i=>B6.out.free i
      have z6:=B6.out.lt
      have HZZ:Hid (H.extract 0 M++S.extract M 256=strN (x.has.take M++x.safe.drop M)):=by
       show _=_
       rw[HZH.out,HZS.out,strN_cut,strN_cut,strN_app,List.drop_zero,List.take_of_length_le (l:=x.safe) (by rw[XK.out.safeL];omega)]
      have sH:H.size=256:=SH.out
      have sS:S.size=256:=SS.out
      have hM3:(M:Int)≤256:=by omega
      have hM4:M≤256:=by omega
      go_wp2_with fail
      go_region
      all_goals
       go_wp2_with fail
       refine(WW.out ⟨(x.has.take M++x.safe.drop M),x.safe,true⟩ _ _ HZZ.out HZS.out _ (HSE.out.same (by repeat(with_reducible first|exact KR.out|refine Kept.drew ?_ |refine Kept.setNew ?_ (by dsimp only;omega) _)))).mono ?_
       rintro e w5 ⟨a5,c5,rfl,hs5,k5⟩
       have KR5:=qh (show Same wr w5 from Kept.trans (by repeat(with_reducible first|exact KR.out|refine Kept.drew ?_ |refine Kept.setNew ?_ (by dsimp only;omega) _)) k5)
       have V5:=qh (show FatesV w5 v8 R2 from FatesV.same (FatesV.apart FV9.out B6.out (by repeat(with_reducible first|exact Kept.refl _ _|refine Kept.drew ?_ |refine Kept.setG ?_ _ _)) (nou8_3 _ _ _)) k5)
       have HS5:=qh hs5
       clear hs5 k5 KR p0 f0 z0 p1 f1 z1 B6 FV9
       have FF:=HF.out.same KR5.out
       obtain⟨p0,f0,p1,f1, -⟩:=FF.rules
       have z0:=FF.1.lt
       have z1:=FF.2.1.lt
       have HFF:=qh FF
       clear FF HF
       go_wp2_with fail
       go_roundw
       case rel=>
        have hbk:Blk w5 w.heap.size #[.slice (some ⟨b,o,none⟩) s.length c',.bool off,.int .i64 calls,.int .i64 after,.bool done] 104:=HFF.out.1
        have hbk1:Blk w5 (w.heap.size+1) #[.slice none 0 0,.bool false,.int .i64 0,.int .i64 0,.bool false] 104:=HFF.out.2.1
        refine⟨i+1,a5,c5,by go_num,by omega,?_,?_,⟨?_,?_,trivial⟩,?_⟩
        ·rw[PS9.out]
         refine FatesV.apart V5.out hbk ?_ (nou8_5 _ _ _ _ _ _ _)
         repeat(with_reducible first|exact Kept.refl _ _|refine Kept.drew ?_ |refine Kept.setG ?_ _ _)
        ·rw[PS9.out]
         refine SecsAt.apart HS5.out hbk ?_ (nostr5 _ _ _ _ _ _ _)
         repeat(with_reducible first|exact Kept.refl _ _|refine Kept.drew ?_ |refine Kept.setG ?_ _ _)
        ·exact Blk.set5 hbk
        ·repeat(with_reducible first|exact hbk1|refine Blk.other ?_ (by dsimp only;omega) _)
        ·repeat(with_reducible first|exact HK.out.trans KR5.out|refine Kept.setNew ?_ (by dsimp only;omega) _)
       case measure=>simp[intOf];omega
     ·have PS9:Hid (powTo s f (i+1)=(ss.set i ⟨x.safe,x.safe,true⟩,R)):=by
       refine PSF.out.trans ?_
       rw[powF_set ss fs i HXX2.out (kp.trans ((if_neg h2).trans (if_neg h3))),yx,List.take_zero,List.drop_zero,List.nil_append]
      have h2':¬(r:Int)=2:=by omega
      have h3':¬(r:Int)=3:=by omega
      clear kp yx PSF h2 h3
      go_wp2_with fail
      refine(RT.out _ (HV.out.same KB.out) PF.out).mono ?_
      rintro e w3 ⟨⟨v9,rfl,fv9⟩,k3⟩
      have KR:=qh (show Same wr w3 from KB.out.trans k3)
      have B6:=qh (show Blk w3 wr.heap.size #[.string H,.string S,.bool true] 155 from(Blk.new wr _ _).kept k3 (fun h=>h))
      have FV9:=qh fv9
      have zw0:w.heap.size<wr.heap.size:=z0
      have zw1:w.heap.size+1<wr.heap.size:=z1
      clear p0 f0 z0 p1 f1 z1
      obtain⟨p0,f0,p1,f1, -⟩:=(HF.out.same KR.out).rules
      have z0:=(HF.out.same KR.out).1.lt
      have z1:=(HF.out.same KR.out).2.1.lt
      have p6:=cell_blk B6.out
      have f6:=fun i=>B6.out.free i
      have z6:=B6.out.lt
      clear k3 fv9 KB
      go_wp2_with fail
      refine(WW.out ⟨x.safe,x.safe,true⟩ _ _ HZS.out HZS.out _ (HSE.out.same (by repeat(with_reducible first|exact KR.out|refine Kept.drew ?_ |refine Kept.setNew ?_ (by dsimp only;omega) _)))).mono ?_
      rintro e w5 ⟨a5,c5,rfl,hs5,k5⟩
      have KR5:=qh (show Same wr w5 from Kept.trans (by repeat(with_reducible first|exact KR.out|refine Kept.drew ?_ |refine Kept.setNew ?_ (by dsimp only;omega) _)) k5)
      have V5:=qh (show FatesV w5 v9 R from FatesV.same (FatesV.apart FV9.out B6.out (by repeat(with_reducible first|exact Kept.refl _ _|refine Kept.drew ?_ |refine Kept.setG ?_ _ _)) (nou8_3 _ _ _)) k5)
      have HS5:=qh hs5
      clear hs5 k5 KR p0 f0 z0 p1 f1 z1 B6 FV9
      have FF:=HF.out.same KR5.out
      obtain⟨p0,f0,p1,f1, -⟩:=FF.rules
      have z0:=FF.1.lt
      have z1:=FF.2.1.lt
      have HFF:=qh FF
      clear FF HF
      go_wp2_with fail
      go_roundw
      case rel=>
       have hbk:Blk w5 w.heap.size #[.slice (some ⟨b,o,none⟩) s.length c',.bool off,.int .i64 calls,.int .i64 after,.bool done] 104:=HFF.out.1
       have hbk1:Blk w5 (w.heap.size+1) #[.slice none 0 0,.bool false,.int .i64 0,.int .i64 0,.bool false] 104:=HFF.out.2.1
       refine⟨i+1,a5,c5,by go_num,by omega,?_,?_,⟨?_,?_,trivial⟩,?_⟩
       ·rw[PS9.out]
        refine FatesV.apart V5.out hbk ?_ (nou8_5 _ _ _ _ _ _ _)
        repeat(with_reducible first|exact Kept.refl _ _|refine Kept.drew ?_ |refine Kept.setG ?_ _ _)
       ·rw[PS9.out]
        refine SecsAt.apart HS5.out hbk ?_ (nostr5 _ _ _ _ _ _ _)
        repeat(with_reducible first|exact Kept.refl _ _|refine Kept.drew ?_ |refine Kept.setG ?_ _ _)
       ·exact Blk.set5 hbk
       ·repeat(with_reducible first|exact hbk1|refine Blk.other ?_ (by dsimp only;omega) _)
       ·repeat(with_reducible first|exact HK.out.trans KR5.out|refine Kept.setNew ?_ (by dsimp only;omega) _)
      case measure=>simp[intOf];omega
  ·have e:i=s.length:=by omega
   subst e
   have W:Hid (∀w',SecsAt w' a' ss→Calls Tryz.prog 108 #[.agg #[.slice a' s.length c',.bool false,.int .i64 calls,.int .i64 (-1),.bool false]] w' fun e w''=>
    ∃a5 c5,e=.returned (.agg #[.slice a5 s.length c5,.bool false,.int .i64 calls,.int .i64 (-1),.bool false])∧(SecsAt w'' a5 (settle ss)∧Far w' a5)∧Same w' w''):=by
    intro w' h
    refine(rs_safe a' s.length c' ⟨ss,false,calls, -1,false⟩ PL.out.symm hl w' h).mono ?_
    rintro e w'' ⟨a5,c5,rfl,h5,k5⟩
    exact⟨a5,c5,by simp only[refV,settle_len];rw[PL.out],h5,k5⟩
   clear hse
   go_wp2_with fail
   refine(W.out _ (SecsAt.apart HSE.out HF.out.1 (by repeat(with_reducible first|exact Kept.refl _ _|refine Kept.setG ?_ _ _)) (nostr5 _ _ _ _ _ _ _))).mono ?_
   rintro e w5 ⟨a5,c5,rfl,⟨hs5,hf5⟩,k5⟩
   have HFA:=qh (show Far w a5 from hf5.mono (Kept.size (fp:=fun _=>False) (by repeat(with_reducible first|exact HK.out|refine Kept.setNew ?_ (by dsimp only;omega) _))))
   have b1:Blk w5 (w.heap.size+1) #[.slice none 0 0,.bool false,.int .i64 0,.int .i64 0,.bool false] 104:=Blk.kept (fp:=fun _=>False) (Blk.kept (fp:=fun j=>j=w.heap.size) HF.out.2.1 (by repeat(with_reducible first|exact Kept.refl _ _|refine Kept.setG ?_ _ _)) (by omega)) k5 (fun h=>h)
   have KE:=qh (show Same w w5 from Kept.trans (by repeat(with_reducible first|exact HK.out|refine Kept.setNew ?_ (by dsimp only;omega) _)) k5)
   have B1:=qh b1
   have HS5:=qh hs5
   have q1:=cell_blk b1
   have e1:=fun i=>b1.free i
   have y1:=b1.lt
   clear p0 f0 z0 p1 f1 z1 b1 hs5 k5 hf5
   go_wp2_with fail
   refine bodyPost_ret (results_two rfl _ _ (w.heap.size+1) 104 #[.slice a5 s.length c5,.bool false,.int .i64 calls,.int .i64 (-1),.bool false] _ rfl (Blk.set5 B1.out) Tryz.underlying104 rfl (by kernel_rfl)) rfl ?_
   have hfin:settle ss=powS s f:=by
    have:=powTo_all s f
    rw[HST.out]at this
    exact this
   refine⟨a5,c5,?_,⟨?_,HFA.out⟩,?_⟩
   ·show _=Ending.returned (refV a5 (powS s f).length c5 ⟨powS s f,false,calls, -1,false⟩)
    rw[powS_len]
    rfl
   ·show SecsAt _ a5 (powS s f)
    rw[←hfin]
    refine SecsAt.apart HS5.out B1.out ?_ (nostr5 _ _ _ _ _ _ _)
    repeat(with_reducible first|exact Kept.refl _ _|refine Kept.setG ?_ _ _)
   ·repeat(with_reducible first|exact KE.out|refine Kept.setNew ?_ (by dsimp only;omega) _)
end
section
open Go.ChangeShapes Go.WideShapes Go.ChangeAt Go.RowKit
section
variable{H:Type}{enc:TypeId×Value→H}{P:Program}{w:World}{base:Nat}{spare:Nat→Bool}{held:Bool}
theorem nats_read{t e:TypeId}{k:IntKind}{fuel:Nat}{v:Value}{x:DataW H×List MemPlace}(B:Int)(ht:P.underlying t=some (.slice e))(he:P.underlying e=some (.int k))(hC:P.cellsOf e=1)
 (hB:∀n,(Lit.int k n).wf=true→0≤n∧n≤B) (h:DataW.trod enc P w base spare held fuel t [v]=some x):
 ∃(a:Option Addr) (cap:Nat) (xs:List Nat),v=.slice a xs.length cap∧NatsAt w k a xs∧(∀y∈xs,(y:Int)≤B)∧xs.length≤cap∧cap≤maxLen∧(a=none→xs=[]∧cap=0):=by
 have form:∃a len cap,v=.slice a len cap:=by
  rcases Deep.open_slice ht h with⟨hcs,_⟩|⟨x,l,c,m,n,D,Pl,hcs,_⟩
  ·simp at hcs;exact⟨_,_,_,hcs⟩
  ·simp at hcs;exact⟨_,_,_,hcs⟩
 obtain⟨a,len,cap,rfl⟩:=form
 obtain⟨h1,h2,h3,h4⟩:=slice_read (C:=1) ht hC (by decide) h
 rcases Nat.eq_zero_or_pos len with rfl|hpos
 ·exact⟨a,cap,[],rfl,.inl rfl,by simp,h1,h2,fun h=>⟨rfl,(h3 h).2⟩⟩
 ·obtain⟨b,off,rfl,hb,each⟩:=h4.resolve_left (by omega)
  have num:∀i,i<len→∃n:Nat,w.cell? ⟨b,off+i,none⟩=some (.int k ((n:Nat):Int))∧(n:Int)≤B:=by
   intro i hi
   obtain⟨n,cs,y,hl,hat,ht'⟩:=each i hi
   obtain⟨z,rfl,_,hw⟩:=DataW.trod_int he ht'
   have hz:=hB z hw
   have:=hat 0 (by decide)
   refine⟨z.toNat,?_,by omega⟩
   rw[show((z.toNat:Nat):Int)=z from by omega]
   simpa using this
  let f:Nat→Nat:=fun i=>if hi:i<len then(num i hi).choose else 0
  have hf:∀i,i<len→w.cell? ⟨b,off+i,none⟩=some (.int k ((f i:Nat):Int))∧(f i:Int)≤B:=by
   intro i hi
   have:=(num i hi).choose_spec
   simp only[f,hi,dif_pos]
   exact this
  refine⟨some ⟨b,off,none⟩,cap,(List.range len).map f,by simp,.inr ⟨b,off,rfl,hb,fun i x hx=>?_⟩,?_,by simpa using h1,h2,fun h=>by simp at h⟩
  ·simp only[List.getElem?_map,Option.map_eq_some_iff]at hx
   obtain⟨j,hj,rfl⟩:=hx
   have hi:i<len:=by
    rcases Nat.lt_or_ge i len with h|h
    ·exact h
    ·rw[List.getElem?_eq_none (by simpa using h)]at hj;simp at hj
   rw[List.getElem?_range hi]at hj
   obtain rfl:=Option.some.inj hj
   exact(hf i hi).1
  ·intro y hy
   obtain⟨i,hi,rfl⟩:=List.mem_map.1 hy
   exact(hf i (by simpa using hi)).2
end
structure ActAt(W:World)(b o:Nat)(k:Nat)(n:Int)(c u:Nat)(dn:Bool)(fa:Option Addr)(fl fc:Nat)(fs:List Nat):Prop where
 c0:W.cell? ⟨b,o,none⟩=some (.int .u8 (k:Nat))
 c1:W.cell? ⟨b,o+1,none⟩=some (.int .i64 n)
 c2:W.cell? ⟨b,o+2,none⟩=some (.int .u8 (c:Nat))
 c3:W.cell? ⟨b,o+3,none⟩=some (.int .u8 (u:Nat))
 c4:W.cell? ⟨b,o+4,none⟩=some (.bool dn)
 c5:W.cell? ⟨b,o+5,none⟩=some (.slice fa fl fc)
 kb:k<256
 nb: -9223372036854775808≤n∧n≤9223372036854775807
 cb:c<256
 ub:u<256
 fl_:fl=fs.length
 fc_:fl≤fc
 fb:Bts fs
 at_:NatsAt W .u8 fa fs
section
variable{H:Type}{enc:TypeId×Value→H}{W:World}{base:Nat}{v:Value}{d:DataW H}{p:List MemPlace}
theorem act_rd{base:Nat}{spare:Nat→Bool}{held:Bool}{n:Nat}{cs:List Value}{x:DataW H×List MemPlace}
 (h:DataW.trod enc Tryz.prog W base spare held n 34 cs=some x):
 ∃(k:Nat) (y:Int) (c u:Nat) (dn:Bool) (fa:Option Addr) (fl fc:Nat) (fs:List Nat),cs=[.int .u8 (k:Nat),.int .i64 y,.int .u8 (c:Nat),.int .u8 (u:Nat),.bool dn,.slice fa fl fc]∧k<256∧(-9223372036854775808≤y∧y≤9223372036854775807)∧c<256∧u<256∧fl=fs.length∧fl≤fc∧Bts fs∧NatsAt W .u8 fa fs:=by
 obtain⟨xs,m,rfl,rfl,hlen,hxs,hf⟩:=DataW.trod_struct Tryz.underlying34 h
 rw[show Tryz.prog.cellsOf 34=6 by kernel_rfl]at hlen
 match cs,hlen with
 |[c0,c1,c2,c3,c4,c5],_=>
  have h0:=hf 0 _ rfl
  have h1:=hf 1 _ rfl
  have h2:=hf 2 _ rfl
  have h3:=hf 3 _ rfl
  have h4:=hf 4 _ rfl
  have h5:=hf 5 _ rfl
  match xs,hxs with
  |[x0,x1,x2,x3,x4,x5],_=>
   obtain⟨k,e0,_,wf0⟩:=DataW.trod_int (cs:=[c0]) Tryz.underlying5 h0
   obtain⟨y,e1,_,wf1⟩:=DataW.trod_int (cs:=[c1]) Tryz.underlying3 h1
   obtain⟨c,e2,_,wf2⟩:=DataW.trod_int (cs:=[c2]) Tryz.underlying5 h2
   obtain⟨u,e3,_,wf3⟩:=DataW.trod_int (cs:=[c3]) Tryz.underlying5 h3
   obtain⟨dn,e4,_⟩:=DataW.trod_bool (cs:=[c4]) Tryz.underlying4 h4
   obtain⟨fa,fc,fs,e5,hat,hB,hl,hm,_⟩:=nats_read 255 Tryz.underlying32 Tryz.underlying5 (by kernel_rfl) (fun n h=>bounds_u8 h) (v:=c5) h5
   simp at e0 e1 e2 e3 e4
   subst e0 e1 e2 e3 e4 e5
   have b0:=bounds_u8 wf0
   have b1:=bounds_i64 wf1
   have b2:=bounds_u8 wf2
   have b3:=bounds_u8 wf3
   refine⟨k.toNat,y,c.toNat,u.toNat,dn,fa,_,fc,fs,?_,by omega,b1,by omega,by omega,rfl,hl,fun z hz=>by have:=hB z hz;omega,hat⟩
   rw[show((k.toNat:Nat):Int)=k from by omega,show((c.toNat:Nat):Int)=c from by omega,show((u.toNat:Nat):Int)=u from by omega]
theorem ActAt.same{w w':World}{b o k:Nat}{n:Int}{c u:Nat}{dn:Bool}{fa:Option Addr}{fl fc:Nat}{fs:List Nat}(h:ActAt w b o k n c u dn fa fl fc fs)(q:Same w w')(hb:b<w.heap.size):ActAt w' b o k n c u dn fa fl fc fs:=by
 have e:∀j,w'.cell? ⟨b,j,none⟩=w.cell? ⟨b,j,none⟩:=fun j=>q.cell (p:=⟨b,j,none⟩) hb (fun h=>h)
 exact⟨by rw[e];exact h.c0,by rw[e];exact h.c1,by rw[e];exact h.c2,by rw[e];exact h.c3,by rw[e];exact h.c4,by rw[e];exact h.c5,h.kb,h.nb,h.cb,h.ub,h.fl_,h.fc_,h.fb,h.at_.same q⟩
end
end
section
open Go.RowKit
def bytesF(c:Nat):List Nat:=(fullL c).set 9 ((c+1) % 256)
def bytesA(c u:Nat):List Nat:=if 0<u then(bytesF c).take u else bytesF c
def doD(D:Dsk)(k:Nat)(n:Int)(c u:Nat)(dn:Bool)(fs:List Nat):Dsk×Nat:=
 if k % 8=5 then syncD D else if k % 8=6 then breakD D n dn else if k % 8=7 then(powerD D fs,0)else writeD D n (bytesA c u)
theorem bytesF_len(c:Nat):(bytesF c).length=256:=by unfold bytesF;rw[List.length_set];exact fullL_len c
theorem bytesF_bts{c:Nat}(h:c<256):Bts (bytesF c):=by
 intro x hx
 rcases List.mem_or_eq_of_mem_set hx with q|rfl
 ·exact fullL_bts h x q
 ·omega
theorem bytesA_bts{c:Nat}(h:c<256)(u:Nat):Bts (bytesA c u):=by
 unfold bytesA
 split
 ·exact(bytesF_bts h).take u
 ·exact bytesF_bts h
theorem callD_len(D:Dsk){s:List Sec}(h:s.length=D.s.length):(callD D s).1.s.length=D.s.length:=by
 unfold callD;dsimp only;split
 ·rfl
 ·exact h
theorem writeD_len(D:Dsk)(n:Int)(b:List Nat):(writeD D n b).1.s.length=D.s.length:=by
 unfold writeD;split
 ·split
  ·exact callD_len D (putS_len _ _ _)
  ·rfl
 ·rfl
theorem syncD_len(D:Dsk):(syncD D).1.s.length=D.s.length:=by
 unfold syncD;split
 ·rfl
 ·exact callD_len D (settle_len _)
theorem breakD_len(D:Dsk)(a:Int)(o:Bool):(breakD D a o).1.s=D.s:=by
 unfold breakD;split
 ·rfl
 ·split<;>rfl
theorem doD_len(D:Dsk)(k:Nat)(n:Int)(c u:Nat)(dn:Bool)(fs:List Nat):(doD D k n c u dn fs).1.s.length=D.s.length:=by
 unfold doD
 split
 ·exact syncD_len D
 ·split
  ·rw[breakD_len]
  ·split
   ·exact powS_len _ _
   ·exact writeD_len D n _
theorem secsAt_lt{w:World}{a:Option Addr}{s:List Sec}(h:SecsAt w a s):s=[]∨∀x,a=some x→x.block<w.heap.size:=by
 rcases h with h|⟨b,o,rfl,hlt,_⟩
 ·exact .inl h
 ·exact .inr (fun x hx=>by cases hx;exact hlt)
theorem SecsAt.kept{w w':World}{fp:Nat→Prop}{a:Option Addr}{s:List Sec}(h:SecsAt w a s)(k:Kept fp w w')(hn:s=[]∨∀x,a=some x→¬fp x.block):SecsAt w' a s:=by
 rcases hn with h0|hn
 ·exact .inl h0
 ·rcases h with h|⟨b,off,rfl,hb,hc⟩
  ·exact .inl h
  ·have e:∀j,w'.cell? ⟨b,j,none⟩=w.cell? ⟨b,j,none⟩:=fun j=>k.cell (p:=⟨b,j,none⟩) hb (hn ⟨b,off,none⟩ rfl)
   exact .inr ⟨b,off,rfl,Nat.lt_of_lt_of_le hb k.size,fun i x hx=>by rw[e,e,e];exact hc i x hx⟩
theorem SecsAt.apart2{w w':World}{a:Option Addr}{s:List Sec}{g1 g2:Nat}{cs1 cs2:Array Value}{t1 t2:TypeId}(h:SecsAt w a s)(hb1:Blk w g1 cs1 t1)(hb2:Blk w g2 cs2 t2)(hk:Kept (fun j=>j=g1∨j=g2) w w')
 (hn1:∀(i:Nat) (x:ByteArray),cs1[i]? ≠some (.string x)) (hn2:∀(i:Nat) (x:ByteArray),cs2[i]? ≠some (.string x)):SecsAt w' a s:=by
 cases s with
 |nil=>exact .inl rfl
 |cons x s=>
  have h':=h
  rcases h with h|⟨b,o,rfl,hlt,hc⟩
  ·cases h
  ·have h0:=(hc 0 x rfl).1
   refine h'.kept hk (.inr (fun y hy=>?_))
   cases hy
   rintro(q|q)
   ·dsimp only at q
    subst q
    rw[cell_blk hb1]at h0
    exact hn1 _ _ h0
   ·dsimp only at q
    subst q
    rw[cell_blk hb2]at h0
    exact hn2 _ _ h0
theorem tmod8_n(q:Nat):(q:Int).tmod 8=((q % 8:Nat):Int):=by rw[Int.tmod_eq_emod_of_nonneg (by omega)];omega
def DoPost(w:World)(d bs cap m:Nat)(a:Option Addr)(D:Dsk)(e:Ending)(w':World):Prop:=
 ∃a' c',e=.returned (.tuple #[refV a' D.s.length c' D,.int .i64 0])∧(SecsAt w' a' D.s∧(a'=a∨Far w a'))∧DiskIn w' d bs cap m D∧Kept (dod d bs m) w w'
theorem do_any{w:World}{d bs cap m:Nat}{D:Dsk}(h:DiskIn w d bs cap m D)(a:Option Addr)(c0:Nat)(hs:SecsAt w a D.s)(ho:∀x,a=some x→¬dod d bs m x.block)
 (k:Nat) (n:Int) (c u:Nat) (dn:Bool) (fa:Option Addr) (fl fc:Nat) (fs:List Nat) (_hk:k<256) (hn: -9223372036854775808≤n∧n≤9223372036854775807) (hc:c<256) (hu:u<256) (hfl:fl=fs.length) (hfc:fl≤fc) (hfb:Bts fs) (hfa:NatsAt w .u8 fa fs)
 (hfo:fs=[]∨∀x,fa=some x→¬dod d bs m x.block):
 Calls Tryz.prog 65 #[.pointer (some ⟨d,0,none⟩),refV a D.s.length c0 D,.agg #[.int .u8 (k:Nat),.int .i64 n,.int .u8 (c:Nat),.int .u8 (u:Nat),.bool dn,.slice fa fl fc]] w
  (DoPost w d bs cap m a (doD D k n c u dn fs).1):=by
 have H:=qh h;have HS:=qh hs;have HO:=qh ho;have HFL:=qh hfl;have HFB:=qh hfb;have HFA:=qh hfa;have HFO:=qh hfo
 have l1:=h.box.lt;have l2:=h.safe.lt;have l3:=h.map.lt
 have hok:=h.ok
 have ht:=tmod8_n k
 obtain⟨r,hr⟩:∃r,k % 8=r:=⟨_,rfl⟩
 have hdo:doD D k n c u dn fs=if r=5 then syncD D else if r=6 then breakD D n dn else if r=7 then(powerD D fs,0)else writeD D n (bytesA c u):=by unfold doD;rw[hr]
 rw[hr]at ht
 rw[hdo]
 have OK:=qh hok
 clear h hs ho hfl hfb hfa hfo hok hdo hr
 simp only[refV]
 by_cases h5:r=5
 ·subst h5
  rw[if_pos rfl]
  obtain⟨R,hR⟩:∃R,syncD D=R:=⟨_,rfl⟩
  rw[hR]
  have HR:=qh hR
  clear hR
  go_enter Tryz.func65,Tryz.ntmps65
  go_wp2_with fail
  refine Calls.fr3 ?_
  intro W F' K' hz'
  have F:=qh F'
  have K:=qh (show Kept (dod d bs m) w W from K'.mono (fun _ _ h=>h.elim))
  have HW:=qh hz'
  have HH:=qh (H.out.same K')
  have HSE:=qh (HS.out.same K')
  clear F' K' hz'
  obtain⟨p0,f0,p1,f1,p2,f2, -⟩:=F.out.rules
  have z0:=F.out.1.lt
  have z1:=F.out.2.1.lt
  have z2:=F.out.2.2.1.lt
  refine(sd_sync HH.out).mono ?_
  rintro e w3 ⟨rfl,h3,k3⟩
  have RC:=qh (rs_sync a D.s.length c0 D rfl OK.out.few OK.out.aft w3 (HSE.out.kept k3 (.inr HO.out)))
  have KN:=qh (K.out.trans k3)
  have FN:=qh (F.out.kept k3 (by intro x hx;simp at hx;rcases hx with rfl|rfl|rfl<;>(intro q;rcases q with q|q|q<;>(dsimp only at q;omega))))
  have HSN:=qh (HSE.out.kept k3 (.inr HO.out))
  have HHN:=qh h3
  clear K F HSE HH k3 h3
  have K:=KN
  have F:=FN
  have HSE:=HSN
  have HH:=HHN
  clear KN FN HSN HHN
  clear p0 f0 z0 p1 f1 z1 p2 f2 z2
  obtain⟨p0,f0,p1,f1,p2,f2, -⟩:=F.out.rules
  have z0:=F.out.1.lt
  have z1:=F.out.2.1.lt
  have z2:=F.out.2.2.1.lt
  rw[HR.out]at HH RC ⊢
  simp only[refV]at RC
  go_wp2_with fail
  refine RC.out.mono ?_
  rintro e w4 ⟨a4,c4,rfl,⟨hs4,hf4⟩,k4⟩
  have HS4:=qh hs4
  have HF4:=qh (show a4=a∨Far w a4 from hf4.imp id (fun q=>q.mono K.out.size))
  clear hs4 hf4 RC
  have KN:=qh (K.out.trans (k4.mono (fun _ _ h=>h.elim)))
  have FN:=qh (F.out.same k4)
  have HHN:=qh (HH.out.same k4)
  clear K F HH HSE k4
  have K:=KN
  have F:=FN
  have HH:=HHN
  clear KN FN HHN
  clear p0 f0 z0 p1 f1 z1 p2 f2 z2
  obtain⟨p0,f0,p1,f1,p2,f2, -⟩:=F.out.rules
  have z0:=F.out.1.lt
  have z1:=F.out.2.1.lt
  have z2:=F.out.2.2.1.lt
  simp only[refV]
  go_wp2_with fail
  refine bodyPost_ret (results_two_tmp rfl _ _ (w.heap.size+1+1) 104 #[.slice a4 R.1.s.length c4,.bool R.1.off,.int .i64 R.1.calls,.int .i64 R.1.after,.bool R.1.done] _ rfl (Blk.set5 (v0:=.slice none 0 0) (v1:=.bool false) (v2:=.int .i64 0) (v3:=.int .i64 0) (v4:=.bool false) ?_) Tryz.underlying104 rfl (by kernel_rfl)) rfl ?_
  ·have hb2:Blk _ (w.heap.size+1+1) #[.slice none 0 0,.bool false,.int .i64 0,.int .i64 0,.bool false] 104:=F.out.2.2.1
   repeat(with_reducible first|exact hb2|refine Blk.other ?_ (by dsimp only;omega) _)
  ·refine⟨a4,c4,rfl,⟨?_,HF4.out⟩,?_,?_⟩
   ·refine SecsAt.apart2 HS4.out F.out.1 F.out.2.2.1 ?_ (nostr5 _ _ _ _ _ _ _) (nostr5 _ _ _ _ _ _ _)
    repeat(with_reducible first|exact Kept.refl _ _|refine Kept.setCell ?_ (fun _=>by dsimp only;omega) _)
   ·refine HH.out.kept (fp:=fun j=>w.heap.size≤j) ?_ (by omega) (by omega) (by omega)
    repeat(with_reducible first|exact Kept.refl _ _|refine Kept.setCell ?_ (fun _=>by dsimp only;omega) _)
   ·repeat(with_reducible first|exact K.out|refine Kept.setNew ?_ (by dsimp only;omega) _)
 rw[if_neg h5]
 have h5':¬(r:Int)=5:=by omega
 by_cases h6:r=6
 ·subst h6
  rw[if_pos rfl]
  have hRs:=breakD_len D n dn
  obtain⟨R,hR⟩:∃R,breakD D n dn=R:=⟨_,rfl⟩
  rw[hR]at hRs ⊢
  have HR:=qh hR
  have HRS:=qh hRs
  clear hR hRs
  go_enter Tryz.func65,Tryz.ntmps65
  go_wp2_with fail
  refine Calls.fr3 ?_
  intro W F' K' hz'
  have F:=qh F'
  have K:=qh (show Kept (dod d bs m) w W from K'.mono (fun _ _ h=>h.elim))
  have HW:=qh hz'
  have HH:=qh (H.out.same K')
  have HSE:=qh (HS.out.same K')
  clear F' K' hz'
  obtain⟨p0,f0,p1,f1,p2,f2, -⟩:=F.out.rules
  have z0:=F.out.1.lt
  have z1:=F.out.2.1.lt
  have z2:=F.out.2.2.1.lt
  refine(sd_break HH.out n (by omega) dn).mono ?_
  rintro e w3 ⟨rfl,h3,k3'⟩
  have k3:Kept (dod d bs m) W w3:=k3'.mono (fun _ _ q=>.inl q)
  have RC:=qh (rs_break a D.s.length c0 D n dn w3)
  clear k3'
  have KN:=qh (K.out.trans k3)
  have FN:=qh (F.out.kept k3 (by intro x hx;simp at hx;rcases hx with rfl|rfl|rfl<;>(intro q;rcases q with q|q|q<;>(dsimp only at q;omega))))
  have HSN:=qh (HSE.out.kept k3 (.inr HO.out))
  have HHN:=qh h3
  clear K F HSE HH k3 h3
  have K:=KN
  have F:=FN
  have HSE:=HSN
  have HH:=HHN
  clear KN FN HSN HHN
  clear p0 f0 z0 p1 f1 z1 p2 f2 z2
  obtain⟨p0,f0,p1,f1,p2,f2, -⟩:=F.out.rules
  have z0:=F.out.1.lt
  have z1:=F.out.2.1.lt
  have z2:=F.out.2.2.1.lt
  rw[HR.out]at HH RC ⊢
  have HL:Hid (D.s.length=R.1.s.length):=by show _=_;rw[HRS.out]
  have HSR:Hid (SecsAt w3 a R.1.s):=by show SecsAt w3 a R.1.s;rw[HRS.out];exact HSE.out
  simp only[refV]at RC
  go_wp2_with fail
  refine RC.out.mono ?_
  rintro e w4 ⟨rfl,k4⟩
  obtain⟨a4,ha4⟩:∃a4,a=a4:=⟨_,rfl⟩
  obtain⟨c4,hc4⟩:∃c4,c0=c4:=⟨_,rfl⟩
  have HS4:Hid (SecsAt w4 a4 R.1.s):=ha4▸HSR.out.same k4
  have HF4:Hid (a4=a∨Far w a4):=.inl ha4.symm
  rw[ha4,hc4]
  have HA4:=qh ha4;have HC4:=qh hc4
  clear RC HSR ha4 hc4
  have KN:=qh (K.out.trans (k4.mono (fun _ _ h=>h.elim)))
  have FN:=qh (F.out.same k4)
  have HHN:=qh (HH.out.same k4)
  clear K F HH HSE k4
  have K:=KN
  have F:=FN
  have HH:=HHN
  clear KN FN HHN
  clear p0 f0 z0 p1 f1 z1 p2 f2 z2
  obtain⟨p0,f0,p1,f1,p2,f2, -⟩:=F.out.rules
  have z0:=F.out.1.lt
  have z1:=F.out.2.1.lt
  have z2:=F.out.2.2.1.lt
  go_wp2_with fail
  refine bodyPost_ret (results_two_tmp rfl _ _ (w.heap.size+1+1) 104 #[.slice a4 D.s.length c4,.bool R.1.off,.int .i64 R.1.calls,.int .i64 R.1.after,.bool R.1.done] _ rfl (Blk.set5 (v0:=.slice none 0 0) (v1:=.bool false) (v2:=.int .i64 0) (v3:=.int .i64 0) (v4:=.bool false) ?_) Tryz.underlying104 rfl (by kernel_rfl)) rfl ?_
  ·have hb2:Blk _ (w.heap.size+1+1) #[.slice none 0 0,.bool false,.int .i64 0,.int .i64 0,.bool false] 104:=F.out.2.2.1
   repeat(with_reducible first|exact hb2|refine Blk.other ?_ (by dsimp only;omega) _)
  ·refine⟨a4,c4,(by rw[HL.out];rfl),⟨?_,HF4.out⟩,?_,?_⟩
   ·refine SecsAt.apart2 HS4.out F.out.1 F.out.2.2.1 ?_ (nostr5 _ _ _ _ _ _ _) (nostr5 _ _ _ _ _ _ _)
    repeat(with_reducible first|exact Kept.refl _ _|refine Kept.setCell ?_ (fun _=>by dsimp only;omega) _)
   ·refine HH.out.kept (fp:=fun j=>w.heap.size≤j) ?_ (by omega) (by omega) (by omega)
    repeat(with_reducible first|exact Kept.refl _ _|refine Kept.setCell ?_ (fun _=>by dsimp only;omega) _)
   ·repeat(with_reducible first|exact K.out|refine Kept.setNew ?_ (by dsimp only;omega) _)
 rw[if_neg h6]
 have h6':¬(r:Int)=6:=by omega
 by_cases h7:r=7
 ·subst h7
  rw[if_pos rfl]
  obtain⟨R,hR⟩:∃R,powerD D fs=R:=⟨_,rfl⟩
  have hR1:((powerD D fs,0):Dsk×Nat).1=R:=hR
  rw[hR1]
  have HR:=qh hR
  clear hR hR1
  go_enter Tryz.func65,Tryz.ntmps65
  go_wp2_with fail
  refine Calls.fr3 ?_
  intro W F' K' hz'
  have F:=qh F'
  have K:=qh (show Kept (dod d bs m) w W from K'.mono (fun _ _ h=>h.elim))
  have HW:=qh hz'
  have HH:=qh (H.out.same K')
  have HSE:=qh (HS.out.same K')
  clear F' K' hz'
  obtain⟨p0,f0,p1,f1,p2,f2, -⟩:=F.out.rules
  have z0:=F.out.1.lt
  have z1:=F.out.2.1.lt
  have z2:=F.out.2.2.1.lt
  have HFW:=qh (HFA.out.kept' K.out HFO.out)
  refine(sd_power HH.out fa fl fc fs HFL.out hfc HFB.out HFW.out).mono ?_
  rintro e w3 ⟨rfl,h3,k3⟩
  have RC:=qh (rs_power a D.s.length c0 D rfl OK.out (.slice fa fl fc) fs HFB.out w3 (HSE.out.kept k3 (.inr HO.out)) ⟨fa,fl,fc,rfl,HFL.out,hfc,HFW.out.kept' k3 HFO.out⟩)
  have KN:=qh (K.out.trans k3)
  have FN:=qh (F.out.kept k3 (by intro x hx;simp at hx;rcases hx with rfl|rfl|rfl<;>(intro q;rcases q with q|q|q<;>(dsimp only at q;omega))))
  have HSN:=qh (HSE.out.kept k3 (.inr HO.out))
  have HHN:=qh h3
  clear K F HSE HH k3 h3
  have K:=KN
  have F:=FN
  have HSE:=HSN
  have HH:=HHN
  clear KN FN HSN HHN
  clear p0 f0 z0 p1 f1 z1 p2 f2 z2
  obtain⟨p0,f0,p1,f1,p2,f2, -⟩:=F.out.rules
  have z0:=F.out.1.lt
  have z1:=F.out.2.1.lt
  have z2:=F.out.2.2.1.lt
  rw[HR.out]at HH RC
  simp only[refV]at RC
  go_wp2_with fail
  refine RC.out.mono ?_
  rintro e w4 ⟨a4,c4,rfl,⟨hs4,hf4⟩,k4⟩
  have HS4:=qh hs4
  have HF4:=qh (show a4=a∨Far w a4 from .inr (hf4.mono K.out.size))
  clear hs4 hf4 RC
  have KN:=qh (K.out.trans (k4.mono (fun _ _ h=>h.elim)))
  have FN:=qh (F.out.same k4)
  have HHN:=qh (HH.out.same k4)
  clear K F HH HSE k4
  have K:=KN
  have F:=FN
  have HH:=HHN
  clear KN FN HHN
  clear p0 f0 z0 p1 f1 z1 p2 f2 z2
  obtain⟨p0,f0,p1,f1,p2,f2, -⟩:=F.out.rules
  have z0:=F.out.1.lt
  have z1:=F.out.2.1.lt
  have z2:=F.out.2.2.1.lt
  simp only[refV]
  go_wp2_with fail
  refine bodyPost_ret (results_two_tmp rfl _ _ (w.heap.size+1+1) 104 #[.slice a4 R.s.length c4,.bool R.off,.int .i64 R.calls,.int .i64 R.after,.bool R.done] _ rfl (Blk.set5 (v0:=.slice none 0 0) (v1:=.bool false) (v2:=.int .i64 0) (v3:=.int .i64 0) (v4:=.bool false) ?_) Tryz.underlying104 rfl (by kernel_rfl)) rfl ?_
  ·have hb2:Blk _ (w.heap.size+1+1) #[.slice none 0 0,.bool false,.int .i64 0,.int .i64 0,.bool false] 104:=F.out.2.2.1
   repeat(with_reducible first|exact hb2|refine Blk.other ?_ (by dsimp only;omega) _)
  ·refine⟨a4,c4,rfl,⟨?_,HF4.out⟩,?_,?_⟩
   ·refine SecsAt.apart2 HS4.out F.out.1 F.out.2.2.1 ?_ (nostr5 _ _ _ _ _ _ _) (nostr5 _ _ _ _ _ _ _)
    repeat(with_reducible first|exact Kept.refl _ _|refine Kept.setCell ?_ (fun _=>by dsimp only;omega) _)
   ·refine HH.out.kept (fp:=fun j=>w.heap.size≤j) ?_ (by omega) (by omega) (by omega)
    repeat(with_reducible first|exact Kept.refl _ _|refine Kept.setCell ?_ (fun _=>by dsimp only;omega) _)
   ·repeat(with_reducible first|exact K.out|refine Kept.setNew ?_ (by dsimp only;omega) _)
 rw[if_neg h7]
 have h7':¬(r:Int)=7:=by omega
 obtain⟨B,hB⟩:∃B,bytesA c u=B:=⟨_,rfl⟩
 obtain⟨R,hR⟩:∃R,writeD D n B=R:=⟨_,rfl⟩
 rw[hB,hR]
 have HB:=qh hB
 have HR:=qh hR
 have HRL:Hid (R.1.s.length=D.s.length):=hR▸writeD_len D n B
 have HSL:=qh (secsAt_lt HS.out)
 clear hB hR
 go_enter Tryz.func65,Tryz.ntmps65
 go_wp2_with fail
 refine Calls.fr3 ?_
 intro W F' K' hz'
 have F:=qh F'
 have K:=qh (show Kept (dod d bs m) w W from K'.mono (fun _ _ h=>h.elim))
 have HW:=qh hz'
 have HH:=qh (H.out.same K')
 have HSE:=qh (HS.out.same K')
 clear F' K' hz'
 obtain⟨p0,f0,p1,f1,p2,f2, -⟩:=F.out.rules
 have z0:=F.out.1.lt
 have z1:=F.out.2.1.lt
 have z2:=F.out.2.2.1.lt
 refine(full_any c W).mono ?_
 rintro e w3 ⟨g,rfl,ho3,k3'⟩
 have hg:=ho3.lt.1
 have k3:Kept (dod d bs m) W w3:=k3'.mono (fun _ _ h=>h.elim)
 have O3:=qh ho3
 have h3:=HH.out.same k3'
 clear ho3 k3'
 have KN:=qh (K.out.trans k3)
 have FN:=qh (F.out.kept k3 (by intro x hx;simp at hx;rcases hx with rfl|rfl|rfl<;>(intro q;rcases q with q|q|q<;>(dsimp only at q;omega))))
 have HSN:=qh (HSE.out.kept k3 (.inr HO.out))
 have HHN:=qh h3
 clear K F HSE HH k3 h3
 have K:=KN
 have F:=FN
 have HSE:=HSN
 have HH:=HHN
 clear KN FN HSN HHN
 clear p0 f0 z0 p1 f1 z1 p2 f2 z2
 obtain⟨p0,f0,p1,f1,p2,f2, -⟩:=F.out.rules
 have z0:=F.out.1.lt
 have z1:=F.out.2.1.lt
 have z2:=F.out.2.2.1.lt
 have hgz:=HW.out
 have hg3:w.heap.size+3≤g:=by omega
 have hc9:=O3.out.cell (j:=9) (x:=c) rfl (by simp[fullL])
 have hf9:=fun i=>O3.out.free rfl i
 have hlg:=O3.out.lt.2
 have h256:((c:Int)+1) % 256=(((c+1) % 256:Nat):Int):=by omega
 have O4:Hid (OwnN (w3.setCell ⟨g,9,none⟩ (.int .u8 (((c:Int)+1) % 256))) W.heap.size 5 .u8 (.slice (some ⟨g,0,none⟩) 256 256) (bytesF c)):=by
  rw[h256]
  exact O3.out.set (fullL_len c) 9 ((c+1) % 256)
 have k4:Kept (fun j=>j=g) w3 (w3.setCell ⟨g,9,none⟩ (.int .u8 (((c:Int)+1) % 256))):=(Kept.refl _ _).setG _ _
 have K4:=qh k4
 have HSE4:=qh (HSE.out.kept k4 (HSL.out.imp id (fun q x hx=>by have:=q x hx;omega)))
 have HH4:=qh (HH.out.kept k4 (by omega) (by omega) (by omega))
 clear k4 hgz h256
 by_cases hu0:u=0
 ·subst hu0
  have HLB:Hid (256=B.length):=by show _=_;rw[←HB.out];exact(bytesF_len c).symm
  have hBe:bytesF c=B:=HB.out
  have NB:=qh (show NatsAt _ .u8 (some ⟨g,0,none⟩) B from hBe▸O4.out.nats)
  clear hBe
  go_wp2_with fail
  refine(sd_write HH4.out n (some ⟨g,0,none⟩) 256 256 B HLB.out (HB.out▸bytesA_bts hc _) NB.out).mono ?_
  rintro e w5 ⟨rfl,h5',k5⟩
  rw[HR.out]at h5' ⊢
  have hd5:¬dod d bs m g:=by rintro(q|q|q)<;>omega
  have RC:=qh (rs_write a D.s.length c0 D rfl OK.out.few OK.out.aft n (some ⟨g,0,none⟩) 256 256 B HLB.out w5 (HSE4.out.kept k5 (.inr HO.out)) (NB.out.kept k5 (fun x hx=>by cases hx;exact hd5)))
  rw[HR.out]at RC
  simp only[refV]at RC
  have O5:=qh (O4.out.kept k5 (fun x hx=>by cases hx;exact hd5))
  have KN:=qh ((K.out.step K4.out (fun i hi q=>by omega)).trans k5)
  have FN:=qh ((F.out.kept K4.out (by intro x hx;simp at hx;rcases hx with rfl|rfl|rfl<;>(dsimp only;omega))).kept k5 (by intro x hx;simp at hx;rcases hx with rfl|rfl|rfl<;>(intro q;rcases q with q|q|q<;>(dsimp only at q;omega))))
  have HHN:=qh h5'
  have hg5:g<w5.heap.size:=O5.out.lt.2
  clear K F HH HSE K4 HH4 HSE4 O3 O4 NB k5 h5' hc9 hf9 hlg
  have K:=KN
  have F:=FN
  have HH:=HHN
  clear KN FN HHN
  clear p0 f0 z0 p1 f1 z1 p2 f2 z2
  obtain⟨p0,f0,p1,f1,p2,f2, -⟩:=F.out.rules
  have z0:=F.out.1.lt
  have z1:=F.out.2.1.lt
  have z2:=F.out.2.2.1.lt
  go_wp2_with fail
  refine RC.out.mono ?_
  rintro e w6 ⟨a4,c4,rfl,⟨hs4,hf4⟩,k6⟩
  have O6:=qh (O5.out.same k6)
  have HS4:=qh hs4
  have HF4:=qh (show a4=a∨Far w a4 from hf4.imp id (fun q=>q.mono K.out.size))
  have HG4:Hid (R.1.s=[]∨∀x,a4=some x→¬x.block=g):=by
   rcases hf4 with q|q
   ·subst q
    exact HSL.out.imp (fun z=>List.eq_nil_of_length_eq_zero (by rw[HRL.out,z];rfl)) (fun z x hx=>by have:=z x hx;omega)
   ·exact .inr (fun x hx=>by have:=q x hx;omega)
  have KN:=qh (K.out.trans (k6.mono (fun _ _ h=>h.elim)))
  have FN:=qh (F.out.same k6)
  have HHN:=qh (HH.out.same k6)
  clear K F HH hs4 hf4 RC O5 k6 hg5
  have K:=KN
  have F:=FN
  have HH:=HHN
  clear KN FN HHN
  clear p0 f0 z0 p1 f1 z1 p2 f2 z2
  obtain⟨p0,f0,p1,f1,p2,f2, -⟩:=F.out.rules
  have z0:=F.out.1.lt
  have z1:=F.out.2.1.lt
  have z2:=F.out.2.2.1.lt
  simp only[refV]
  go_wp2_with fail
  go_loopw [11] (fun iv wr=>∃(i:Nat) (xs:List Nat),iv=.int .i64 i∧i≤256∧xs.length=256∧OwnN wr W.heap.size 5 .u8 (.slice (some ⟨g,0,none⟩) 256 256) xs∧Fr wr [(w.heap.size,#[.slice a4 R.1.s.length c4,.bool R.1.off,.int .i64 R.1.calls,.int .i64 R.1.after,.bool R.1.done],104),(w.heap.size+1+1,#[.slice none 0 0,.bool false,.int .i64 0,.int .i64 0,.bool false],104)]∧SecsAt wr a4 R.1.s∧DiskIn wr d bs cap m R.1∧Kept (dod d bs m) w wr) (fun iv _=>256 - (intOf iv).toNat)
  case atStart=>
   refine⟨0,bytesF c,rfl,by omega,bytesF_len c,O6.out.kept (fp:=fun j=>j=w.heap.size) ?_ (fun x hx=>by cases hx;dsimp only;omega),⟨Blk.set5 F.out.1,?_,trivial⟩,SecsAt.apart HS4.out F.out.1 ?_ (nostr5 _ _ _ _ _ _ _),HH.out.kept (fp:=fun j=>j=w.heap.size) ?_ (by omega) (by omega) (by omega),?_⟩
   ·repeat(with_reducible first|exact Kept.refl _ _|refine Kept.setG ?_ _ _)
   ·have hb2:Blk _ (w.heap.size+1+1) #[.slice none 0 0,.bool false,.int .i64 0,.int .i64 0,.bool false] 104:=F.out.2.2.1
    repeat(with_reducible first|exact hb2|refine Blk.other ?_ (by dsimp only;omega) _)
   ·repeat(with_reducible first|exact Kept.refl _ _|refine Kept.setG ?_ _ _)
   ·repeat(with_reducible first|exact Kept.refl _ _|refine Kept.setG ?_ _ _)
   ·repeat(with_reducible first|exact K.out|refine Kept.setNew ?_ (by dsimp only;omega) _)
  case round=>
   clear K F HH HS4 O6
   clear p0 f0 z0 p1 f1 z1 p2 f2 z2
   obtain⟨i,xs,rfl,hi,hxl,hown,hfr,hsa,hda,hka⟩:=hrel
   have O7:=qh hown;have F:=qh hfr;have HS4:=qh hsa;have HH:=qh hda;have K:=qh hka
   have hlg:=hown.lt.2
   clear hown hfr hsa hda hka
   obtain⟨p0,f0,p2,f2, -⟩:=F.out.rules
   have z0:=F.out.1.lt
   have z2:=F.out.2.1.lt
   by_cases hgo:i<256
   ·obtain⟨x,hx⟩:∃x,xs[i]? =some x:=⟨_,List.getElem?_eq_getElem (by omega)⟩
    have c9:=O7.out.cell hxl hx
    have f9:=fun i=>O7.out.free hxl i
    have h256:((x:Int)+1) % 256=(((x+1) % 256:Nat):Int):=by omega
    have O8:Hid (OwnN (wr.setCell ⟨g,i,none⟩ (.int .u8 (((x:Int)+1) % 256))) W.heap.size 5 .u8 (.slice (some ⟨g,0,none⟩) 256 256) (xs.set i ((x+1) % 256))):=by
     rw[h256]
     exact O7.out.set hxl i ((x+1) % 256)
    have hgo1:(i:Int)<(256:Int):=by omega
    have hgo2:(0:Int)≤(i:Int):=by omega
    have HXL:=qh hxl
    have k9:Kept (fun j=>j=g) wr (wr.setCell ⟨g,i,none⟩ (.int .u8 (((x:Int)+1) % 256))):=(Kept.refl _ _).setG _ _
    have K9:=qh k9
    clear h256 hx k9 hxl
    go_wp2_with fail
    go_roundw
    case rel=>exact⟨i+1,_,by go_num,by omega,by rw[List.length_set];exact HXL.out,O8.out,F.out.kept K9.out (by intro x hx;simp at hx;rcases hx with rfl|rfl<;>(dsimp only;omega)),HS4.out.kept K9.out HG4.out,HH.out.kept K9.out (by omega) (by omega) (by omega),K.out.step K9.out (fun i hi q=>by omega)⟩
    case measure=>simp[intOf];omega
   ·have hgo1:¬(i:Int)<(256:Int):=by omega
    clear hxl
    go_wp2_with fail
    refine bodyPost_ret (results_two_tmp rfl _ _ (w.heap.size+1+1) 104 #[.slice a4 R.1.s.length c4,.bool R.1.off,.int .i64 R.1.calls,.int .i64 R.1.after,.bool R.1.done] _ rfl (Blk.set5 (v0:=.slice none 0 0) (v1:=.bool false) (v2:=.int .i64 0) (v3:=.int .i64 0) (v4:=.bool false) ?_) Tryz.underlying104 rfl (by kernel_rfl)) rfl ?_
    ·have hb2:Blk _ (w.heap.size+1+1) #[.slice none 0 0,.bool false,.int .i64 0,.int .i64 0,.bool false] 104:=F.out.2.1
     repeat(with_reducible first|exact hb2|refine Blk.other ?_ (by dsimp only;omega) _)
    ·refine⟨a4,c4,rfl,⟨?_,HF4.out⟩,?_,?_⟩
     ·refine SecsAt.apart2 HS4.out F.out.1 F.out.2.1 ?_ (nostr5 _ _ _ _ _ _ _) (nostr5 _ _ _ _ _ _ _)
      repeat(with_reducible first|exact Kept.refl _ _|refine Kept.setCell ?_ (fun _=>by dsimp only;omega) _)
     ·refine HH.out.kept (fp:=fun j=>w.heap.size≤j) ?_ (by omega) (by omega) (by omega)
      repeat(with_reducible first|exact Kept.refl _ _|refine Kept.setCell ?_ (fun _=>by dsimp only;omega) _)
     ·repeat(with_reducible first|exact K.out|refine Kept.setNew ?_ (by dsimp only;omega) _)
 ·have hup:0<u:=by omega
  have hup':(0:Int)<(u:Int):=by omega
  have hup2:(0:Int)≤(u:Int):=by omega
  have hup3:(u:Int)≤256:=by omega
  have hBe:(bytesF c).take u=B:=by rw[←HB.out];unfold bytesA;rw[if_pos hup]
  have HLB:Hid (u=B.length):=by show _=_;rw[←hBe,List.length_take,bytesF_len];omega
  have NB:=qh (show NatsAt _ .u8 (some ⟨g,0,none⟩) B from hBe▸O4.out.nats.take u)
  clear hBe
  go_wp2_with fail
  refine(sd_write HH4.out n (some ⟨g,0,none⟩) u 256 B HLB.out (HB.out▸bytesA_bts hc _) NB.out).mono ?_
  rintro e w5 ⟨rfl,h5',k5⟩
  rw[HR.out]at h5' ⊢
  have hd5:¬dod d bs m g:=by rintro(q|q|q)<;>omega
  have RC:=qh (rs_write a D.s.length c0 D rfl OK.out.few OK.out.aft n (some ⟨g,0,none⟩) u 256 B HLB.out w5 (HSE4.out.kept k5 (.inr HO.out)) (NB.out.kept k5 (fun x hx=>by cases hx;exact hd5)))
  rw[HR.out]at RC
  simp only[refV]at RC
  have O5:=qh (O4.out.kept k5 (fun x hx=>by cases hx;exact hd5))
  have KN:=qh ((K.out.step K4.out (fun i hi q=>by omega)).trans k5)
  have FN:=qh ((F.out.kept K4.out (by intro x hx;simp at hx;rcases hx with rfl|rfl|rfl<;>(dsimp only;omega))).kept k5 (by intro x hx;simp at hx;rcases hx with rfl|rfl|rfl<;>(intro q;rcases q with q|q|q<;>(dsimp only at q;omega))))
  have HHN:=qh h5'
  have hg5:g<w5.heap.size:=O5.out.lt.2
  clear K F HH HSE K4 HH4 HSE4 O3 O4 NB k5 h5' hc9 hf9 hlg
  have K:=KN
  have F:=FN
  have HH:=HHN
  clear KN FN HHN
  clear p0 f0 z0 p1 f1 z1 p2 f2 z2
  obtain⟨p0,f0,p1,f1,p2,f2, -⟩:=F.out.rules
  have z0:=F.out.1.lt
  have z1:=F.out.2.1.lt
  have z2:=F.out.2.2.1.lt
  go_wp2_with fail
  refine RC.out.mono ?_
  rintro e w6 ⟨a4,c4,rfl,⟨hs4,hf4⟩,k6⟩
  have O6:=qh (O5.out.same k6)
  have HS4:=qh hs4
  have HF4:=qh (show a4=a∨Far w a4 from hf4.imp id (fun q=>q.mono K.out.size))
  have HG4:Hid (R.1.s=[]∨∀x,a4=some x→¬x.block=g):=by
   rcases hf4 with q|q
   ·subst q
    exact HSL.out.imp (fun z=>List.eq_nil_of_length_eq_zero (by rw[HRL.out,z];rfl)) (fun z x hx=>by have:=z x hx;omega)
   ·exact .inr (fun x hx=>by have:=q x hx;omega)
  have KN:=qh (K.out.trans (k6.mono (fun _ _ h=>h.elim)))
  have FN:=qh (F.out.same k6)
  have HHN:=qh (HH.out.same k6)
  clear K F HH hs4 hf4 RC O5 k6 hg5
  have K:=KN
  have F:=FN
  have HH:=HHN
  clear KN FN HHN
  clear p0 f0 z0 p1 f1 z1 p2 f2 z2
  obtain⟨p0,f0,p1,f1,p2,f2, -⟩:=F.out.rules
  have z0:=F.out.1.lt
  have z1:=F.out.2.1.lt
  have z2:=F.out.2.2.1.lt
  simp only[refV]
  go_wp2_with fail
  go_loopw [11] (fun iv wr=>∃(i:Nat) (xs:List Nat),iv=.int .i64 i∧i≤u∧xs.length=256∧OwnN wr W.heap.size 5 .u8 (.slice (some ⟨g,0,none⟩) 256 256) xs∧Fr wr [(w.heap.size,#[.slice a4 R.1.s.length c4,.bool R.1.off,.int .i64 R.1.calls,.int .i64 R.1.after,.bool R.1.done],104),(w.heap.size+1+1,#[.slice none 0 0,.bool false,.int .i64 0,.int .i64 0,.bool false],104)]∧SecsAt wr a4 R.1.s∧DiskIn wr d bs cap m R.1∧Kept (dod d bs m) w wr) (fun iv _=>u - (intOf iv).toNat)
  case atStart=>
   refine⟨0,bytesF c,rfl,by omega,bytesF_len c,O6.out.kept (fp:=fun j=>j=w.heap.size) ?_ (fun x hx=>by cases hx;dsimp only;omega),⟨Blk.set5 F.out.1,?_,trivial⟩,SecsAt.apart HS4.out F.out.1 ?_ (nostr5 _ _ _ _ _ _ _),HH.out.kept (fp:=fun j=>j=w.heap.size) ?_ (by omega) (by omega) (by omega),?_⟩
   ·repeat(with_reducible first|exact Kept.refl _ _|refine Kept.setG ?_ _ _)
   ·have hb2:Blk _ (w.heap.size+1+1) #[.slice none 0 0,.bool false,.int .i64 0,.int .i64 0,.bool false] 104:=F.out.2.2.1
    repeat(with_reducible first|exact hb2|refine Blk.other ?_ (by dsimp only;omega) _)
   ·repeat(with_reducible first|exact Kept.refl _ _|refine Kept.setG ?_ _ _)
   ·repeat(with_reducible first|exact Kept.refl _ _|refine Kept.setG ?_ _ _)
   ·repeat(with_reducible first|exact K.out|refine Kept.setNew ?_ (by dsimp only;omega) _)
  case round=>
   clear K F HH HS4 O6
   clear p0 f0 z0 p1 f1 z1 p2 f2 z2
   obtain⟨i,xs,rfl,hi,hxl,hown,hfr,hsa,hda,hka⟩:=hrel
   have O7:=qh hown;have F:=qh hfr;have HS4:=qh hsa;have HH:=qh hda;have K:=qh hka
   have hlg:=hown.lt.2
   clear hown hfr hsa hda hka
   obtain⟨p0,f0,p2,f2, -⟩:=F.out.rules
   have z0:=F.out.1.lt
   have z2:=F.out.2.1.lt
   by_cases hgo:i<u
   ·obtain⟨x,hx⟩:∃x,xs[i]? =some x:=⟨_,List.getElem?_eq_getElem (by omega)⟩
    have c9:=O7.out.cell hxl hx
    have f9:=fun i=>O7.out.free hxl i
    have h256:((x:Int)+1) % 256=(((x+1) % 256:Nat):Int):=by omega
    have O8:Hid (OwnN (wr.setCell ⟨g,i,none⟩ (.int .u8 (((x:Int)+1) % 256))) W.heap.size 5 .u8 (.slice (some ⟨g,0,none⟩) 256 256) (xs.set i ((x+1) % 256))):=by
     rw[h256]
     exact O7.out.set hxl i ((x+1) % 256)
    have hgo1:(i:Int)<(u:Int):=by omega
    have hgo2:(0:Int)≤(i:Int):=by omega
    have HXL:=qh hxl
    have k9:Kept (fun j=>j=g) wr (wr.setCell ⟨g,i,none⟩ (.int .u8 (((x:Int)+1) % 256))):=(Kept.refl _ _).setG _ _
    have K9:=qh k9
    clear h256 hx k9 hxl
    go_wp2_with fail
    go_roundw
    case rel=>exact⟨i+1,_,by go_num,by omega,by rw[List.length_set];exact HXL.out,O8.out,F.out.kept K9.out (by intro x hx;simp at hx;rcases hx with rfl|rfl<;>(dsimp only;omega)),HS4.out.kept K9.out HG4.out,HH.out.kept K9.out (by omega) (by omega) (by omega),K.out.step K9.out (fun i hi q=>by omega)⟩
    case measure=>simp[intOf];omega
   ·have hgo1:¬(i:Int)<(u:Int):=by omega
    clear hxl
    go_wp2_with fail
    refine bodyPost_ret (results_two_tmp rfl _ _ (w.heap.size+1+1) 104 #[.slice a4 R.1.s.length c4,.bool R.1.off,.int .i64 R.1.calls,.int .i64 R.1.after,.bool R.1.done] _ rfl (Blk.set5 (v0:=.slice none 0 0) (v1:=.bool false) (v2:=.int .i64 0) (v3:=.int .i64 0) (v4:=.bool false) ?_) Tryz.underlying104 rfl (by kernel_rfl)) rfl ?_
    ·have hb2:Blk _ (w.heap.size+1+1) #[.slice none 0 0,.bool false,.int .i64 0,.int .i64 0,.bool false] 104:=F.out.2.1
     repeat(with_reducible first|exact hb2|refine Blk.other ?_ (by dsimp only;omega) _)
    ·refine⟨a4,c4,rfl,⟨?_,HF4.out⟩,?_,?_⟩
     ·refine SecsAt.apart2 HS4.out F.out.1 F.out.2.1 ?_ (nostr5 _ _ _ _ _ _ _) (nostr5 _ _ _ _ _ _ _)
      repeat(with_reducible first|exact Kept.refl _ _|refine Kept.setCell ?_ (fun _=>by dsimp only;omega) _)
     ·refine HH.out.kept (fp:=fun j=>w.heap.size≤j) ?_ (by omega) (by omega) (by omega)
      repeat(with_reducible first|exact Kept.refl _ _|refine Kept.setCell ?_ (fun _=>by dsimp only;omega) _)
     ·repeat(with_reducible first|exact K.out|refine Kept.setNew ?_ (by dsimp only;omega) _)
end
section
open Go.RowKit Go.Sort
theorem Calls.quiet_same3{P:Program}{f:FuncId}{args:Array Value}{w:World}{d:Nat}{os:Array Obj}{v:Value}
 (h:Calls P f args (grow (redrawn w d) os) fun e w'=>e=.returned v∧w'=grow (redrawn w d) os):Calls P f args (grow (redrawn w d) os) fun e w''=>e=.returned v∧∃p:Regrown,w''=grow (redrawn w p.d) p.os:=
 Calls.regrown_of (h.mono fun _ _ ⟨h1,h2⟩=>⟨h1,h2▸Below.refl _ _⟩)
theorem same_any{w:World}{d bs cap m:Nat}{D:Dsk}(h:DiskIn w d bs cap m D)(a:Option Addr)(c:Nat)(hs:SecsAt w a D.s):
 Calls Tryz.prog 58 #[.pointer (some ⟨d,0,none⟩),refV a D.s.length c D] w fun e w'=>e=.returned (.int .i64 0)∧Same w w':=by
 have H:=qh h;have HS:=qh hs
 have few:=h.ok.few
 have OK:=qh h.ok
 clear h hs
 obtain⟨L,hL⟩:∃L,waitsOf D.s=L:=⟨_,rfl⟩
 have hLl:L.length≤4096:=by
  rw[←hL]
  have:=List.length_filter_le (waitsAt D.s) (List.range D.s.length)
  rw[List.length_range]at this
  unfold waitsOf
  omega
 obtain⟨NW,hNW⟩:∃NW,L.length=NW:=⟨_,rfl⟩
 have K0:Same w (w.alloc (.cells #[.slice a D.s.length c,.bool D.off,.int .i64 D.calls,.int .i64 D.after,.bool D.done] 104)):=(Kept.refl _ w).alloc _
 have F0:Fr (w.alloc (.cells #[.slice a D.s.length c,.bool D.off,.int .i64 D.calls,.int .i64 D.after,.bool D.done] 104)) [(w.heap.size,#[.slice a D.s.length c,.bool D.off,.int .i64 D.calls,.int .i64 D.after,.bool D.done],104)]:=⟨Blk.new w _ _,trivial⟩
 have K:=qh K0
 have F:=qh F0
 clear K0 F0
 have SW:Hid (∀w',Same w w'→Calls Tryz.prog 47 #[.pointer (some ⟨d,0,none⟩)] w' fun e w''=>∃a1 c1,e=.returned (.slice a1 NW c1)∧NatsAt w'' .i64 a1 L∧Same w' w''):=by
  intro w' k
  refine(sd_waits (H.out.same k)).mono ?_
  rintro e w'' ⟨v,rfl,ho,k2⟩
  obtain⟨a1,l1,c1,rfl,h1, -,h2, -⟩:=ho.rd
  have h1:=h1.out
  rw[hL,hNW]at h1
  have h2:=h2.out
  rw[hL]at h2
  exact⟨a1,c1,by rw[h1],h2,k2⟩
 have RW:Hid (∀w',Same w w'→Calls Tryz.prog 97 #[.agg #[.slice a D.s.length c,.bool D.off,.int .i64 D.calls,.int .i64 D.after,.bool D.done]] w' fun e w''=>∃a1 c1,e=.returned (.slice a1 NW c1)∧NatsAt w'' .i64 a1 L∧Same w' w''):=by
  intro w' k
  refine(rs_waits a D.s.length c D rfl few w' (HS.out.same k)).mono ?_
  rintro e w'' ⟨⟨v,rfl,ho⟩,k2⟩
  obtain⟨a1,l1,c1,rfl,h1, -,h2, -⟩:=ho.rd
  have h1:=h1.out
  rw[hL,hNW]at h1
  have h2:=h2.out
  rw[hL]at h2
  exact⟨a1,c1,by rw[h1],h2,k2⟩
 have HNW:=qh hNW
 have hNW2:NW≤4096:=by omega
 clear hL hNW hLl
 simp only[refV]
 go_enter Tryz.func58,Tryz.ntmps58
 go_wp2_with fail
 generalize hW:w.alloc (.cells #[.slice a D.s.length c,.bool D.off,.int .i64 D.calls,.int .i64 D.after,.bool D.done] 104)=W at*
 clear hW
 obtain⟨p0,f0, -⟩:=F.out.rules
 have z0:=F.out.1.lt
 have QQ:Hid (∀w',Same W w'→(∀i,w'.cell? ⟨w.heap.size,i,none⟩=(#[.slice a D.s.length c,.bool D.off,.int .i64 D.calls,.int .i64 D.after,.bool D.done]:Array Value)[i]?)):=fun w' k=>cell_blk (F.out.1.kept k (fun h=>h))
 have KN:=qh (Kept.refl (fun _=>False) W)
 go_region_held3 (fun w'=>(∀i,w'.cell? ⟨w.heap.size,i,none⟩=(#[.slice a D.s.length c,.bool D.off,.int .i64 D.calls,.int .i64 D.after,.bool D.done]:Array Value)[i]?))
  (first|exact QQ.out _ KN.out|exact QQ.out _ KN.out.drew)
  (first
   |(go_at_call 47;refine(SW.out _ (K.out.trans (by first|exact KN.out|exact KN.out.drew))).mono ?_;rintro e w9 ⟨a1,c1,rfl,n1,k⟩;have N1:=qh n1;clear n1;have KN':=qh (Kept.trans (by first|exact KN.out|exact KN.out.drew) k);clear KN;have KN:=KN';clear KN';(first|(have KS':=qh (Kept.trans (by first|exact KS.out|exact KS.out.drew) k);clear KS;have KS:=KS';clear KS')|have KS:=qh (Kept.refl (fun _=>False) w9));clear k)
   |(go_at_call 97;refine(RW.out _ (K.out.trans (by first|exact KN.out|exact KN.out.drew))).mono ?_;rintro e w9 ⟨a2,c2,rfl,n2,k⟩;have N2:=qh n2;clear n2;have KN':=qh (Kept.trans (by first|exact KN.out|exact KN.out.drew) k);clear KN;have KN:=KN';clear KN';(first|(have KS':=qh (Kept.trans (by first|exact KS.out|exact KS.out.drew) k);clear KS;have KS:=KS';clear KS')|have KS:=qh (Kept.refl (fun _=>False) w9));clear k))
 have M1:=qh (N1.out.same KS.out)
 have M2:=qh N2.out
 have K9:=qh (K.out.trans KN.out)
 have F9:=qh (F.out.same KN.out)
 clear N1 N2 KS QQ KN K p0 f0 z0 F
 have F:=F9
 clear F9
 have C1:∀dq os,Calls Tryz.prog 20 #[.pointer (some ⟨d,0,none⟩)] (grow (redrawn w9 dq) os) fun e w''=>e=.returned (.bool D.off)∧∃p:Regrown,w''=grow (redrawn w9 p.d) p.os:=fun dq os=>Calls.quiet_same3 (sd_off (H.out.same (K9.out.trans (Kept.of_below (below_regrown _ dq os)))))
 have C2:∀dq os,Calls Tryz.prog 98 #[.pointer (some ⟨d,0,none⟩)] (grow (redrawn w9 dq) os) fun e w''=>e=.returned (.int .i64 D.calls)∧∃p:Regrown,w''=grow (redrawn w9 p.d) p.os:=fun dq os=>Calls.quiet_same3 (sd_calls (H.out.same (K9.out.trans (Kept.of_below (below_regrown _ dq os)))))
 have C3:∀dq os,Calls Tryz.prog 72 #[.pointer (some ⟨d,0,none⟩)] (grow (redrawn w9 dq) os) fun e w''=>e=.returned (.int .i64 (D.s.length:Nat))∧∃p:Regrown,w''=grow (redrawn w9 p.d) p.os:=fun dq os=>Calls.quiet_same3 (sd_size (H.out.same (K9.out.trans (Kept.of_below (below_regrown _ dq os)))))
 have C1:=qh C1;have C2:=qh C2;have C3:=qh C3
 have G0:=fun d os i=>cell_blk (F.out.1.kept (Kept.of_below (below_regrown _ d os)) (fun h=>h)) i
 obtain⟨off,hoff⟩:∃off,D.off=off:=⟨_,rfl⟩
 obtain⟨N,hN⟩:∃N,D.s.length=N:=⟨_,rfl⟩
 rw[hoff]at C1
 rw[hN]at C3
 simp only[hoff,hN]at G0 F few
 rw[hoff,hN]
 have RW9:=qh fun w' (k:Same w w') n=>rs_read a N c D hN.symm n w' (HS.out.same k)
 simp only[refV,hoff]at RW9
 clear hoff hN
 go_wp2_with fail
 refine wp_region_quiet_below (by kernel_rfl) (by kernel_rfl) ?_
 repeat(quiet_step (first|exact C1.out _ _|exact C2.out _ _|exact C3.out _ _))
 refine wpQuiet_nil ?_
 intro _ hw'
 obtain⟨⟨dq,osq⟩,hw''⟩:=hw'
 subst hw''
 have kq:=qh (show Same w9 _ from Kept.of_below (below_regrown w9 dq osq))
 have K8:=qh (K9.out.trans kq.out)
 have X1:=qh (M1.out.same kq.out)
 have X2:=qh (M2.out.same kq.out)
 have F8:=qh (F.out.same kq.out)
 clear C1 C2 C3 G0 M1 M2 K9 kq F
 generalize hW8:grow (redrawn w9 dq) osq=w8 at*
 clear hW8
 go_wp2_with fail
 go_loopw [7] (fun iv wr=>∃i:Nat,iv=.int .i64 i∧i≤NW∧Same w8 wr) (fun iv _=>NW - (intOf iv).toNat)
 case atStart=>exact⟨0,rfl,by omega,Kept.refl _ _⟩
 case round=>
  obtain⟨i,rfl,hi,hk⟩:=hrel
  have HK:=qh hk
  by_cases hgo:i<NW
  ·obtain⟨b1,o1,x1,rfl,hb1,hx1,hc1⟩:=(X1.out.same hk).at (i:=i) (by rw[HNW.out];exact hgo)
   obtain⟨b2,o2,x2,rfl,hb2,hx2,hc2⟩:=(X2.out.same hk).at (i:=i) (by rw[HNW.out];exact hgo)
   obtain rfl:x1=x2:=by rw[hx1]at hx2;exact Option.some.inj hx2
   have g1:(i:Int)<(NW:Int):=by omega
   have g0:(0:Int)≤(i:Int):=by omega
   clear hx1 hx2 hk
   go_wp2_with fail
   go_region
   all_goals
    go_wp2_with fail
    go_roundw
    case rel=>exact⟨i+1,by go_num,by omega,by repeat(with_reducible first|exact HK.out|refine Kept.drew ?_)⟩
    case measure=>simp[intOf];omega
  ·have g1:¬(i:Int)<(NW:Int):=by omega
   clear hk
   have K7:=qh (K8.out.trans HK.out)
   have F7:=qh (F8.out.same HK.out)
   clear X1 X2 K8 F8 HK
   go_wp2_with fail
   go_loopw [8] (fun iv wr=>∃n:Int,iv=.int .i64 n∧ -1≤n∧n≤(N:Int)+1∧Same w wr∧Fr wr [(w.heap.size,#[.slice a N c,.bool off,.int .i64 D.calls,.int .i64 D.after,.bool D.done],104)]) (fun iv _=>((N:Int)+1 - intOf iv).toNat)
   case atStart=>exact⟨-1,rfl,by omega,by omega,K7.out,F7.out⟩
   case round=>
    clear K7 F7
    obtain⟨n,rfl,hn1,hn2,hk,hf⟩:=hrel
    have HK:=qh hk
    have HF:=qh hf
    obtain⟨p0,f0, -⟩:=hf.rules
    have z0:=hf.1.lt
    clear hk hf
    by_cases hgo:n≤(N:Int)
    ·have SR:=qh (sd_read (H.out.same HK.out) n)
     have RR:=qh fun w' (k:Same wr w')=>RW9.out w' (HK.out.trans k) n
     obtain⟨X,hX⟩:∃X,(readD D n).1=X:=⟨_,rfl⟩
     obtain⟨E,hE⟩:∃E,(readD D n).2=E:=⟨_,rfl⟩
     rw[hX,hE]at SR
     simp only[hX,hE]at RR
     clear hX hE
     go_wp2_with fail
     refine SR.out.mono ?_
     rintro e w3 ⟨a3,c3,rfl,hn3, -,k3⟩
     have KA:=qh k3
     have NA:=qh hn3
     clear p0 f0 z0
     obtain⟨p0,f0, -⟩:=(HF.out.same k3).rules
     have z0:=(HF.out.same k3).1.lt
     clear k3 hn3
     go_wp2_with fail
     refine(RR.out _ KA.out).mono ?_
     rintro e w4 ⟨rfl,k4⟩
     have hcv:=conv_str a3 X.length c3 X w4 rfl (NA.out.same k4)
     have KB:=qh (KA.out.trans k4)
     clear p0 f0 z0
     obtain⟨p0,f0, -⟩:=(HF.out.same KB.out).rules
     have z0:=(HF.out.same KB.out).1.lt
     clear k4 NA KA SR RR
     obtain⟨XL,hXL⟩:∃XL,X.length=XL:=⟨_,rfl⟩
     rw[hXL]at hcv ⊢
     clear hXL
     go_wp2_with fail
     go_roundw
     case rel=>exact⟨n+1,by go_num,by omega,by omega,HK.out.trans KB.out,HF.out.same KB.out⟩
     case measure=>simp[intOf];omega
    ·have hgo':(N:Int)<n:=by omega
     go_wp2_with fail
     go_ret
     exact⟨rfl,HK.out⟩
end
section
open Go.RowKit Go.Sort
end
end Go.Proofs.YtmiglhlbhbfodaaGreatDoor
