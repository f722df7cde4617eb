/- GBmC: Bm8, Bm9, Bm10. -/
import Derived.Test.YtmiglhlbhbfodaaGreatDoorGBmA
import Derived.Lib.MinMax
import Derived.Deep.RegionHeld3
set_option maxHeartbeats 1600000
set_option maxRecDepth 100000
namespace Go.Proofs.YtmiglhlbhbfodaaGreatDoor
section
open Go.RowKit
theorem Kept.weak{fp:Nat→Prop}{w w':World}(h:Same w w'):Kept fp w w':=h.mono fun _ _ h=>h.elim
theorem mix_at(s:Int)(a:Option Addr)(cap:Nat)(ws:List Nat)(i:Nat)(w:World)(hat:NatsAt w .u64 a ws):
 Calls Tryz.prog 135 #[mapV s a ws.length cap,.int .i64 (i:Nat)] w fun e w'=>e=.returned (.int .u64 ((ws.getD i 0:Nat):Int))∧Same w w':=by
 by_cases hi:i<ws.length
 ·obtain⟨b,off,x,rfl,hb,hx,hc⟩:=hat.at hi
  have hx':ws.getD i 0=x:=by rw[List.getD,hx];rfl
  rw[hx']
  clear hx hx' hat
  generalize ws.length=l at*
  have hc2:=((Kept.refl (fun _=>False) w).alloc (.cells #[.int .i64 s,.slice (some ⟨b,off,none⟩) l cap] 51)).cell (p:=⟨b,off+i,none⟩) hb (fun h=>h)
  rw[hc]at hc2
  go_enter Tryz.func135,Tryz.ntmps135
  go_wp2_with fail
  go_ret
  exact⟨rfl,(Kept.refl _ w).alloc _⟩
 ·have hx':ws.getD i 0=0:=by rw[List.getD,List.getElem?_eq_none (by omega)];rfl
  rw[hx']
  clear hx' hat
  generalize ws.length=l at*
  go_enter Tryz.func135,Tryz.ntmps135
  go_wp2_with fail
  go_ret
  exact⟨rfl,(Kept.refl _ w).alloc _⟩
def WordFn(f:FuncId)(op:Nat→Nat→Nat):Prop:=∀(x y:Nat) (w:World),x<18446744073709551616→y<18446744073709551616→
 Calls Tryz.prog f #[.int .u64 x,.int .u64 y] w fun e w'=>e=.returned (.int .u64 ((op x y:Nat):Int))∧w=w'
theorem word_or:WordFn 92 (· ||| ·):=by
 intro x y w hx hy
 have e:=u64_or_nat x y hx hy
 go_enter Tryz.func92,Tryz.ntmps92
 go_wp2_with(rw[e])
 go_ret
 exact⟨by rw[←e];rfl,rfl⟩
def mixK(op:Nat→Nat→Nat)(xs ys:List Nat)(l k:Nat):List Nat:=(List.range l).map fun i=>if i<k then op (xs.getD i 0) (ys.getD i 0)else 0
theorem mixK_len(op:Nat→Nat→Nat)(xs ys:List Nat)(l k:Nat):(mixK op xs ys l k).length=l:=by simp[mixK]
theorem mixK_zero(op:Nat→Nat→Nat)(xs ys:List Nat)(l:Nat):mixK op xs ys l 0=List.replicate l 0:=by
 apply List.ext_getElem?
 intro i
 simp[mixK,List.getElem?_replicate]
 by_cases h:i<l<;>simp[h]
theorem mixK_at(op:Nat→Nat→Nat)(xs ys:List Nat)(l k:Nat)(h:k<l):(mixK op xs ys l k)[k]? =some 0:=by
 simp only[mixK,List.getElem?_map,List.getElem?_range h]
 simp
theorem mixK_step(op:Nat→Nat→Nat)(xs ys:List Nat)(l k:Nat):(mixK op xs ys l k).set k (op (xs.getD k 0) (ys.getD k 0))=mixK op xs ys l (k+1):=by
 apply List.ext_getElem?
 intro i
 rw[List.getElem?_set]
 simp only[mixK,List.getElem?_map,List.length_map,List.length_range]
 by_cases h:i<l
 ·rw[List.getElem?_range h]
  by_cases hk:k=i
  ·subst hk;simp[h]
  ·rw[if_neg hk]
   have:(i<k+1)↔i<k:=by omega
   simp[this]
 ·have h2:(List.range l)[i]? =none:=List.getElem?_eq_none (by simpa using Nat.le_of_not_lt h)
  rw[h2]
  by_cases hk:k=i
  ·subst hk;simp[h]
  ·rw[if_neg hk];rfl
theorem bm_mix_ok(fw:FuncId)(op:Nat→Nat→Nat)(hfw:fw=92∨fw=92)(hop:WordFn fw op)(s t m:Nat)(a b:Option Addr)(ca cb:Nat)(xs ys:List Nat)(w:World)(hx64:Words xs)(hy64:Words ys)(hmx:mapOK s xs=true)(hmy:mapOK t ys=true)
 (hm:max (s:Int) (t:Int)=(m:Int)) (hm4:m≤4096) (hx:NatsAt w .u64 a xs) (hy:NatsAt w .u64 b ys):
 Calls Tryz.prog 91 #[mapV s a xs.length ca,mapV t b ys.length cb,.func (.func fw) #[] #[]] w fun e w'=>∃g,e=.returned (mapV m (some ⟨g,0,none⟩) ((m+63) / 64) ((m+63) / 64))∧
  OwnN w' w.heap.size 98 .u64 (.slice (some ⟨g,0,none⟩) ((m+63) / 64) ((m+63) / 64)) (mixK op xs ys ((m+63) / 64) ((m+63) / 64))∧Same w w':=by
 have CA:=qh fun w' (h:NatsAt w' .u64 a xs)=>(bm_check s a ca xs w' h).mono (R':=fun e w''=>e=.returned (.int .i64 0)∧Same w' w'') fun _ _ h=>by rw[hmx]at h;exact h
 have CB:=qh fun w' (h:NatsAt w' .u64 b ys)=>(bm_check t b cb ys w' h).mono (R':=fun e w''=>e=.returned (.int .i64 0)∧Same w' w'') fun _ _ h=>by rw[hmy]at h;exact h
 have NW:=qh fun w'=>bm_new_ok m w' hm4
 have AX:=qh fun(i:Nat) w' (h:NatsAt w' .u64 a xs)=>mix_at s a ca xs i w' h
 have AY:=qh fun(i:Nat) w' (h:NatsAt w' .u64 b ys)=>mix_at t b cb ys i w' h
 have HX:=qh hx;have HY:=qh hy
 have HOP:=qh hop
 have X64:=qh hx64;have Y64:=qh hy64
 clear hx hy hop hmx hmy hx64 hy64
 have hL:(m+63) / 64≤64:=by omega
 generalize (m+63) / 64=L at*
 generalize xs.length=l1 at*
 generalize ys.length=l2 at*
 go_enter Tryz.func91,Tryz.ntmps91
 go_wp2_with fail
 refine Calls.boxes3 ?_
 intro W g1 g2 g3 k1 hz
 refine(CA.out W (HX.out.same k1)).mono ?_
 rintro e w2 ⟨rfl,k2⟩
 have K2:=qh (k1.trans k2)
 have G1:=qh (g1.kept k2 (fun h=>h))
 have G2:=qh (g2.kept k2 (fun h=>h))
 have G3:=qh (g3.kept k2 (fun h=>h))
 have r0:w2.cell? ⟨w.heap.size+1,0,none⟩=some (.int .i64 t):=G2.out.cell 0 rfl
 have r1:w2.cell? ⟨w.heap.size+1,1,none⟩=some (.slice b l2 cb):=G2.out.cell 1 rfl
 clear g1 g2 g3 k1 k2 hz CA
 go_wp2_with fail
 refine(CB.out w2 (HY.out.same K2.out)).mono ?_
 rintro e w3 ⟨rfl,k3⟩
 have K3:=qh (K2.out.trans k3)
 have F1:=qh (G1.out.kept k3 (fun h=>h))
 have F2:=qh (G2.out.kept k3 (fun h=>h))
 have F3:=qh (G3.out.kept k3 (fun h=>h))
 have q0:w3.cell? ⟨w.heap.size,0,none⟩=some (.int .i64 s):=F1.out.cell 0 rfl
 have q1:w3.cell? ⟨w.heap.size+1,0,none⟩=some (.int .i64 t):=F2.out.cell 0 rfl
 clear r0 r1 k3 CB K2 G1 G2 G3
 go_wp2_with fail
 refine(NW.out w3).mono ?_
 rintro e w4 ⟨g,rfl,ho,k4⟩
 have hgb:=ho.lt
 have K4:=qh (K3.out.trans k4)
 have O4:Hid (OwnN w4 w.heap.size 98 .u64 (.slice (some ⟨g,0,none⟩) L L) (mixK op xs ys L 0)):=by
  show OwnN _ _ _ _ _ _
  rw[mixK_zero]
  exact ho.base K3.out.size
 have E1:=qh (F1.out.kept k4 (fun h=>h))
 have E2:=qh (F2.out.kept k4 (fun h=>h))
 have E3:=qh (F3.out.kept k4 (fun h=>h))
 have hgl:w.heap.size+1+1<g:=Nat.lt_of_lt_of_le F3.out.lt hgb.1
 have hg4:g<w4.heap.size:=hgb.2
 clear q0 q1 k4 K3 F1 F2 F3 ho NW hm hgb
 go_wp2_with fail
 go_loopw [10,32] (fun x i wr=>∃(k:Nat) (v:Value),k≤L∧x=v∧i=.int .i64 (k:Nat)∧Hid (OwnN wr w.heap.size 98 .u64 (.slice (some ⟨g,0,none⟩) L L) (mixK op xs ys L k))∧
  Hid (Blk wr w4.heap.size #[.int .i64 m,.slice (some ⟨g,0,none⟩) L L] 51)∧Hid (Blk wr w.heap.size #[.int .i64 s,.slice a l1 ca] 51)∧
  Hid (Blk wr (w.heap.size+1) #[.int .i64 t,.slice b l2 cb] 51)∧Hid (Blk wr (w.heap.size+1+1) #[.int .i64 0,.slice none 0 0] 51)∧Hid (Same w wr)) (fun _ i _=>L - (intOf i).toNat)
 case atStart=>exact⟨0,_,Nat.zero_le _,rfl,rfl,O4.out.same ((Kept.refl _ w4).alloc _),Blk.new w4 _ _,E1.out.alloc _,E2.out.alloc _,E3.out.alloc _,K4.out.alloc _⟩
 case round=>
  obtain⟨k,v,hk,rfl,rfl,ho,hb,h1,h2,h3,hs⟩:=hrel
  have q1:wr.cell? ⟨w4.heap.size,1,none⟩=some (.slice (some ⟨g,0,none⟩) L L):=hb.out.cell 1 rfl
  by_cases hlt:k<L
  ·have hlt':(k:Int)<(L:Int):=by omega
   have hk0:(0:Int)≤(k:Int):=by omega
   have hf:Hid (∀j,wr.frozen? ⟨g,j,none⟩=false):=ho.out.free (mixK_len _ _ _ _ _)
   have hc0:=qh (ho.out.cell (mixK_len _ _ _ _ _) (mixK_at op xs ys L k hlt))
   have hgr:=qh ho.out.lt.2
   have AXk:=qh fun w' (h:Same wr w')=>AX.out k w' (HX.out.same (hs.out.trans h))
   have AYk:=qh fun w' (h:Same wr w')=>AY.out k w' (HY.out.same (hs.out.trans h))
   have OPk:=qh fun w'=>HOP.out _ _ w' (getD_word X64.out k) (getD_word Y64.out k)
   have tokA:Hid True:=trivial
   have tokB:Hid True:=trivial
   have ST:=qh (mixK_step op xs ys L k)
   obtain⟨z,hz⟩:∃z,op (xs.getD k 0) (ys.getD k 0)=z:=⟨_,rfl⟩
   rw[hz]at OPk ST
   clear hz
   generalize xs.getD k 0=x at*
   generalize ys.getD k 0=y at*
   have KK:=qh (Kept.refl (fun _=>False) wr)
   have SS:Hid (∀w',Kept (fun j=>j=g) wr w'→w'.cell? ⟨w4.heap.size,1,none⟩=some (.slice (some ⟨g,0,none⟩) L L)∧w'.cell? ⟨w.heap.size,0,none⟩=some (.int .i64 s)∧w'.cell? ⟨w.heap.size,1,none⟩=some (.slice a l1 ca)∧
    w'.cell? ⟨w.heap.size+1,0,none⟩=some (.int .i64 t)∧w'.cell? ⟨w.heap.size+1,1,none⟩=some (.slice b l2 cb)):=by
    intro w' kk
    exact⟨(hb.out.kept kk (by omega)).cell 1 rfl,(h1.out.kept kk (by omega)).cell 0 rfl,(h1.out.kept kk (by omega)).cell 1 rfl,(h2.out.kept kk (by omega)).cell 0 rfl,(h2.out.kept kk (by omega)).cell 1 rfl⟩
   rcases hfw with rfl|rfl
   all_goals
    go_wp2_with fail
    go_region_held3 (fun w'=>w'.cell? ⟨w4.heap.size,1,none⟩=some (.slice (some ⟨g,0,none⟩) L L)∧w'.cell? ⟨w.heap.size,0,none⟩=some (.int .i64 s)∧w'.cell? ⟨w.heap.size,1,none⟩=some (.slice a l1 ca)∧
     w'.cell? ⟨w.heap.size+1,0,none⟩=some (.int .i64 t)∧w'.cell? ⟨w.heap.size+1,1,none⟩=some (.slice b l2 cb))
     (first|exact SS.out _ (Kept.weak KK.out)|exact SS.out _ (Kept.weak KK.out.drew)|exact SS.out _ ((Kept.weak KK.out).setG _ _)|exact SS.out _ ((Kept.weak KK.out.drew).setG _ _))
     (first
      |(have tk:=tokA;clear tk tokA;refine(AXk.out _ (by first|exact KK.out|exact KK.out.drew)).mono ?_;rintro e w5 ⟨rfl,hk5⟩;have KN:=qh (Kept.trans (by first|exact KK.out|exact KK.out.drew) hk5);clear KK hk5;have KK:=KN;clear KN)
      |(have tk:=tokB;clear tk tokB;refine(AYk.out _ (by first|exact KK.out|exact KK.out.drew)).mono ?_;rintro e w5 ⟨rfl,hk5⟩;have KN:=qh (Kept.trans (by first|exact KK.out|exact KK.out.drew) hk5);clear KK hk5;have KK:=KN;clear KN;have fz:∀j,w5.frozen? ⟨g,j,none⟩=false:=fun j=>(KK.out.frozen (p:=⟨g,j,none⟩) hgr.out (fun h=>h)).trans (hf.out j);have cz:w5.cell? ⟨g,k,none⟩=some (.int .u64 ((0:Nat):Int)):=(KK.out.cell (p:=⟨g,k,none⟩) hgr.out (fun h=>h)).trans hc0.out)
      |(refine(OPk.out _).mono ?_;rintro e w6 ⟨rfl,rfl⟩))
   all_goals
    go_wp2_with fail
    go_roundw
    case rel=>
     refine⟨k+1,_,by omega,rfl,by go_num,?_,(hb.out.kept KK.out (fun h=>h)).other (by show _≠g;omega) _,(h1.out.kept KK.out (fun h=>h)).other (by show _≠g;omega) _,(h2.out.kept KK.out (fun h=>h)).other (by show _≠g;omega) _,(h3.out.kept KK.out (fun h=>h)).other (by show _≠g;omega) _,(hs.out.trans KK.out).setNew (by show _≤g;omega) _⟩
     have o5:=(ho.out.same KK.out).set (mixK_len _ _ _ _ _) k z
     rw[ST.out]at o5
     exact o5
    case measure=>simp[intOf];omega
  ·have e:k=L:=by omega
   subst e
   have q0:wr.cell? ⟨w4.heap.size,0,none⟩=some (.int .i64 m):=hb.out.cell 0 rfl
   have f3:∀i,wr.frozen? ⟨w.heap.size+1+1,i,none⟩=false:=h3.out.free
   have c0:wr.cell? ⟨w.heap.size+1+1,0,none⟩=some (.int .i64 0):=h3.out.cell 0 rfl
   have c1:wr.cell? ⟨w.heap.size+1+1,1,none⟩=some (.slice none 0 0):=h3.out.cell 1 rfl
   go_wp2_with fail
   have p:=(h3.out.set 0 (.int .i64 (m:Nat))).set 1 (.slice (some ⟨g,0,none⟩) k k)
   have p0:=p.cell 0 (v:=.int .i64 (m:Nat)) rfl
   have p1:=p.cell 1 (v:=.slice (some ⟨g,0,none⟩) k k) rfl
   refine bodyPost_ret (v:=mapV m (some ⟨g,0,none⟩) k k) (by simp[results,Tryz.results91,go_sem,p0,p1]) rfl ?_
   have KG:=(Kept.refl (fun j=>j=w.heap.size+1+1) wr).setG 0 (.int .i64 (m:Nat))|>.setG 1 (.slice (some ⟨g,0,none⟩) k k)
   exact⟨g,rfl,ho.out.kept KG (fun j hj=>by simp[Value.ownBlock]at hj;omega),(hs.out.setNew (by show _≤_+1+1;omega) _).setNew (by show _≤_+1+1;omega) _⟩
end
section
open Go.RowKit
theorem mapOK_if_false(s:Int)(xs:List Nat)(h:mapOK s xs=false){e:Ending}(k:e=.returned (.int .i64 (if mapOK s xs then 0 else 4))):e=.returned (.int .i64 4):=by rw[h]at k;exact k
theorem mapOK_if_true(s:Int)(xs:List Nat)(h:mapOK s xs=true){e:Ending}(k:e=.returned (.int .i64 (if mapOK s xs then 0 else 4))):e=.returned (.int .i64 0):=by rw[h]at k;exact k
theorem bm_mix_bad(fw:FuncId)(s t:Int)(a b:Option Addr)(ca cb:Nat)(xs ys:List Nat)(w:World)(h:mapOK s xs=false∨mapOK t ys=false)(hx:NatsAt w .u64 a xs)(hy:NatsAt w .u64 b ys):
 Calls Tryz.prog 91 #[mapV s a xs.length ca,mapV t b ys.length cb,.func (.func fw) #[] #[]] w fun e w'=>e=.returned (mapV 0 none 0 0)∧Same w w':=by
 cases hmx:mapOK s xs
 ·have CA:=qh fun w' (h:NatsAt w' .u64 a xs)=>(bm_check s a ca xs w' h).mono (R':=fun e w''=>e=.returned (.int .i64 4)∧Same w' w'') fun _ _ h=>⟨mapOK_if_false s xs hmx h.1,h.2⟩
  have HX:=qh hx
  clear hx hy hmx h
  generalize xs.length=l1 at*
  generalize ys.length=l2 at*
  go_enter Tryz.func91,Tryz.ntmps91
  go_wp2_with fail
  refine Calls.boxes3 ?_
  intro W g1 g2 g3 k1 hz
  refine(CA.out W (HX.out.same k1)).mono ?_
  rintro e w2 ⟨rfl,k2⟩
  have K2:=qh (k1.trans k2)
  have G3:=qh (g3.kept k2 (fun h=>h))
  have f3:∀i,w2.frozen? ⟨w.heap.size+1+1,i,none⟩=false:=G3.out.free
  have c0:w2.cell? ⟨w.heap.size+1+1,0,none⟩=some (.int .i64 0):=G3.out.cell 0 rfl
  have c1:w2.cell? ⟨w.heap.size+1+1,1,none⟩=some (.slice none 0 0):=G3.out.cell 1 rfl
  clear g1 g2 g3 k1 k2 hz CA
  go_wp2_with fail
  have p:=(G3.out.set 0 (.int .i64 0)).set 1 (.slice none 0 0)
  have p0:=p.cell 0 (v:=.int .i64 0) rfl
  have p1:=p.cell 1 (v:=.slice none 0 0) rfl
  exact bodyPost_ret (v:=mapV 0 none 0 0) (by simp[results,Tryz.results91,go_sem,p0,p1]) rfl ⟨rfl,(K2.out.setNew (by show _≤_+1+1;omega) _).setNew (by show _≤_+1+1;omega) _⟩
 ·have hmy:mapOK t ys=false:=by rcases h with h|h;rw[hmx]at h;cases h;exact h
  have CA:=qh fun w' (h:NatsAt w' .u64 a xs)=>(bm_check s a ca xs w' h).mono (R':=fun e w''=>e=.returned (.int .i64 0)∧Same w' w'') fun _ _ h=>⟨mapOK_if_true s xs hmx h.1,h.2⟩
  have CB:=qh fun w' (h:NatsAt w' .u64 b ys)=>(bm_check t b cb ys w' h).mono (R':=fun e w''=>e=.returned (.int .i64 4)∧Same w' w'') fun _ _ h=>⟨mapOK_if_false t ys hmy h.1,h.2⟩
  have HX:=qh hx;have HY:=qh hy
  clear hx hy hmx hmy h
  generalize xs.length=l1 at*
  generalize ys.length=l2 at*
  go_enter Tryz.func91,Tryz.ntmps91
  go_wp2_with fail
  refine Calls.boxes3 ?_
  intro W g1 g2 g3 k1 hz
  refine(CA.out W (HX.out.same k1)).mono ?_
  rintro e w2 ⟨rfl,k2⟩
  have K2:=qh (k1.trans k2)
  have G2:=qh (g2.kept k2 (fun h=>h))
  have G3:=qh (g3.kept k2 (fun h=>h))
  have r0:w2.cell? ⟨w.heap.size+1,0,none⟩=some (.int .i64 t):=G2.out.cell 0 rfl
  have r1:w2.cell? ⟨w.heap.size+1,1,none⟩=some (.slice b l2 cb):=G2.out.cell 1 rfl
  clear g1 g2 g3 k1 k2 hz CA
  go_wp2_with fail
  refine(CB.out w2 (HY.out.same K2.out)).mono ?_
  rintro e w3 ⟨rfl,k3⟩
  have K3:=qh (K2.out.trans k3)
  have F3:=qh (G3.out.kept k3 (fun h=>h))
  have f3:∀i,w3.frozen? ⟨w.heap.size+1+1,i,none⟩=false:=F3.out.free
  have c0:w3.cell? ⟨w.heap.size+1+1,0,none⟩=some (.int .i64 0):=F3.out.cell 0 rfl
  have c1:w3.cell? ⟨w.heap.size+1+1,1,none⟩=some (.slice none 0 0):=F3.out.cell 1 rfl
  clear r0 r1 k3 CB K2 G2 G3
  go_wp2_with fail
  have p:=(F3.out.set 0 (.int .i64 0)).set 1 (.slice none 0 0)
  have p0:=p.cell 0 (v:=.int .i64 0) rfl
  have p1:=p.cell 1 (v:=.slice none 0 0) rfl
  exact bodyPost_ret (v:=mapV 0 none 0 0) (by simp[results,Tryz.results91,go_sem,p0,p1]) rfl ⟨rfl,(K3.out.setNew (by show _≤_+1+1;omega) _).setNew (by show _≤_+1+1;omega) _⟩
def mixS(s t:Int)(xs ys:List Nat):Int:=if mapOK s xs&&mapOK t ys then max s t else 0
def mixW(op:Nat→Nat→Nat)(s t:Int)(xs ys:List Nat):List Nat:=
 if mapOK s xs&&mapOK t ys then mixK op xs ys (((max s t).toNat+63) / 64) (((max s t).toNat+63) / 64)else []
def MadeMap(w:World)(s:Int)(ws:List Nat)(e:Ending)(w':World):Prop:=
 ∃v c,e=.returned (mapV s v ws.length c)∧OwnN w' w.heap.size 98 .u64 (.slice v ws.length c) ws∧Same w w'
theorem ownN_nil(w:World)(base:Nat)(e:TypeId)(k:IntKind):OwnN w base e k (.slice none 0 0) []:=World.ownsRow_nil w base e 1
theorem bm_mix(fw:FuncId)(op:Nat→Nat→Nat)(hfw:fw=92∨fw=92)(hop:WordFn fw op)(s t:Int)(a b:Option Addr)(ca cb:Nat)(xs ys:List Nat)(w:World)(hx64:Words xs)(hy64:Words ys)
 (hx:NatsAt w .u64 a xs) (hy:NatsAt w .u64 b ys):
 Calls Tryz.prog 91 #[mapV s a xs.length ca,mapV t b ys.length cb,.func (.func fw) #[] #[]] w (MadeMap w (mixS s t xs ys) (mixW op s t xs ys)):=by
 cases hok:mapOK s xs&&mapOK t ys
 ·have h:mapOK s xs=false∨mapOK t ys=false:=by
   cases h1:mapOK s xs
   ·exact .inl rfl
   ·exact .inr (by rw[h1]at hok;exact hok)
  refine(bm_mix_bad fw s t a b ca cb xs ys w h hx hy).mono fun e w' r=>?_
  have e1:mixS s t xs ys=0:=by simp[mixS,hok]
  have e2:mixW op s t xs ys=[]:=by simp[mixW,hok]
  rw[e1,e2]
  exact⟨none,0,r.1,ownN_nil _ _ _ _,r.2⟩
 ·have h1:mapOK s xs=true:=by rw[Bool.and_eq_true]at hok;exact hok.1
  have h2:mapOK t ys=true:=by rw[Bool.and_eq_true]at hok;exact hok.2
  have p1:=mapOK_pos h1
  have p2:=mapOK_pos h2
  obtain⟨S,rfl⟩:=Int.eq_ofNat_of_zero_le p1.1
  obtain⟨T,rfl⟩:=Int.eq_ofNat_of_zero_le p2.1
  obtain⟨m,hm⟩:=Int.eq_ofNat_of_zero_le (show 0≤max (S:Int) T by omega)
  have hm':max (S:Int) (T:Int)=(m:Int):=hm
  refine(bm_mix_ok fw op hfw hop S T m a b ca cb xs ys w hx64 hy64 h1 h2 hm' (by omega) hx hy).mono fun e w' r=>?_
  obtain⟨g,r1,r2,r3⟩:=r
  have e1:mixS S T xs ys=m:=by simp only[mixS,hok,if_true];exact hm'
  have e2:mixW op S T xs ys=mixK op xs ys ((m+63) / 64) ((m+63) / 64):=by simp only[mixW,hok,if_true,hm',Int.toNat_natCast]
  rw[e1,e2]
  refine⟨some ⟨g,0,none⟩,(m+63) / 64,?_,?_,r3⟩
  ·rw[mixK_len];exact r1
  ·rw[mixK_len];exact r2
end
section
open Go.RowKit
theorem bm_either(s t:Int)(a b:Option Addr)(ca cb:Nat)(xs ys:List Nat)(w:World)(hx64:Words xs)(hy64:Words ys)(hx:NatsAt w .u64 a xs)(hy:NatsAt w .u64 b ys):
 Calls Tryz.prog 51 #[mapV s a xs.length ca,mapV t b ys.length cb] w (MadeMap w (mixS s t xs ys) (mixW (· ||| ·) s t xs ys)):=by
 have M:=qh fun w' hx' hy'=>bm_mix 92 (· ||| ·) (.inr rfl) word_or s t a b ca cb xs ys w' hx64 hy64 hx' hy'
 have HX:=qh hx;have HY:=qh hy
 clear hx hy hx64 hy64
 generalize mixS s t xs ys=m at*
 generalize mixW (· ||| ·) s t xs ys=zs at*
 generalize xs.length=l1 at*
 generalize ys.length=l2 at*
 go_enter Tryz.func51,Tryz.ntmps51
 go_wp2_with fail
 refine Calls.boxes3 ?_
 intro W g1 g2 g3 k1 hz
 refine(M.out W (HX.out.same k1) (HY.out.same k1)).mono ?_
 rintro e w2 ⟨v,c,rfl,ho,k2⟩
 have O:=qh (ho.base k1.size)
 have K2:=qh (k1.trans k2)
 have G3:=qh (g3.kept k2 (fun h=>h))
 have f3:∀i,w2.frozen? ⟨w.heap.size+1+1,i,none⟩=false:=G3.out.free
 have c0:w2.cell? ⟨w.heap.size+1+1,0,none⟩=some (.int .i64 0):=G3.out.cell 0 rfl
 have c1:w2.cell? ⟨w.heap.size+1+1,1,none⟩=some (.slice none 0 0):=G3.out.cell 1 rfl
 have hb:Hid (∀q,(Value.slice v zs.length c).ownBlock=some q→W.heap.size≤q):=fun q hq=>(World.ownsRow.lt ho q hq).1
 have hz':=qh hz
 clear g1 g2 g3 k1 k2 hz M ho
 go_wp2_with fail
 have p:=(G3.out.set 0 (.int .i64 m)).set 1 (.slice v zs.length c)
 have p0:=p.cell 0 (v:=.int .i64 m) rfl
 have p1:=p.cell 1 (v:=.slice v zs.length c) rfl
 have KG:=(Kept.refl (fun j=>j=w.heap.size+1+1) w2).setG 0 (.int .i64 m)|>.setG 1 (.slice v zs.length c)
 exact bodyPost_ret (v:=mapV m v zs.length c) (by simp[results,Tryz.results51,go_sem,p0,p1]) rfl ⟨v,c,rfl,O.out.kept KG (fun j hj=>by have h1:=hb.out j hj;have h2:=hz'.out;omega),(K2.out.setNew (by show _≤_+1+1;omega) _).setNew (by show _≤_+1+1;omega) _⟩
end
end Go.Proofs.YtmiglhlbhbfodaaGreatDoor
