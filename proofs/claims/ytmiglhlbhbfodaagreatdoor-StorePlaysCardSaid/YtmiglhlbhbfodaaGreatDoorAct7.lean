/- Acts of chapter 7 in memory; few. -/
import Derived.Test.YtmiglhlbhbfodaaGreatDoorGBlk
set_option maxHeartbeats 800000
namespace Go.Proofs.YtmiglhlbhbfodaaGreatDoor
open Go.RowKit
structure Act7(W:World)(b o:Nat)(k:Nat)(n:Int)(ba:Option Addr)(bl bc:Nat)(bs:List Nat):Prop where
 c0:W.cell? ⟨b,o,none⟩=some (.int .u8 (k:Nat))
 c1:W.cell? ⟨b,o+1,none⟩=some (.int .i64 n)
 c2:W.cell? ⟨b,o+2,none⟩=some (.slice ba bl bc)
 kb:k<256
 nb: -9223372036854775808≤n∧n≤9223372036854775807
 bl_:bl=bs.length
 bc_:bl≤bc
 bb:Bts bs
 at_:NatsAt W .u8 ba bs
 d:∃k2 n2 c u dn fa fl fc fs,ActAt W b (o+3) k2 n2 c u dn fa fl fc fs
def Acts7(W:World)(b o len:Nat):Prop:=∀i,i<len→∃k n ba bl bc bs,Act7 W b (o+i*9) k n ba bl bc bs
theorem Act7.same{w w':World}{b o k:Nat}{n:Int}{ba:Option Addr}{bl bc:Nat}{bs:List Nat}(h:Act7 w b o k n ba bl bc bs)(q:Same w w')(hb:b<w.heap.size):Act7 w' b o k n ba bl bc bs:=by
 have e:∀j,w'.cell? ⟨b,j,none⟩=w.cell? ⟨b,j,none⟩:=fun j=>q.cell (p:=⟨b,j,none⟩) hb (fun h=>h)
 refine⟨(e _).trans h.c0,(e _).trans h.c1,(e _).trans h.c2,h.kb,h.nb,h.bl_,h.bc_,h.bb,h.at_.same q,?_⟩
 obtain⟨k2,n2,c,u,dn,fa,fl,fc,fs,hh⟩:=h.d
 exact⟨k2,n2,c,u,dn,fa,fl,fc,fs,hh.same q hb⟩
theorem few7(W:World)(a:Option Addr)(len cap:Nat)(m:Int)(hmm:m≤100)(hacts:len=0∨∃b off,a=some ⟨b,off,none⟩∧b<W.heap.size∧Acts7 W b off len):
 ∃r:Bool,(∀w,Same W w→Calls Tryz.prog 6 #[.slice a len cap,.int .i64 m] w fun e w'=>e=.returned (.bool r)∧w'=w)∧(r=true→(len:Int)≤m):=by
 by_cases hm:m<(len:Int)
 ·refine⟨false,fun w _=>?_,fun q=>by cases q⟩
  clear hacts
  go_enter Tryz.func6,Tryz.ntmps6
  go_wp2_with fail
  go_ret
  exact⟨rfl,rfl⟩
 ·have hm':¬m<(len:Int):=hm
  have hl100:len≤100:=by omega
  clear hmm
  by_cases hz:len=0
  ·subst hz
   refine⟨true,fun w _=>?_,fun _=>by omega⟩
   clear hacts
   go_enter Tryz.func6,Tryz.ntmps6
   go_wp2_with fail
   go_loop [5] (fun t=>t=.int .i64 0) (fun _=>0)
   case atStart=>rfl
   case round=>
    obtain rfl:=hrel
    go_wp2_with fail
    go_ret
    exact⟨rfl,rfl⟩
  ·obtain⟨b,off,rfl,hb,hall⟩:=hacts.resolve_left hz
   have hlen:∀i,i<len→∃ba bl bc,W.cell? ⟨b,off+i*9+2,none⟩=some (.slice ba bl bc):=fun i hi=>by
    obtain⟨k,n,ba,bl,bc,bs,h⟩:=hall i hi
    exact⟨ba,bl,bc,h.c2⟩
   let L:Nat→Nat:=fun i=>if h:i<len then(hlen i h).choose_spec.choose else 0
   have hL:∀i,i<len→∃ba bc,W.cell? ⟨b,off+i*9+2,none⟩=some (.slice ba (L i) bc):=by
    intro i hi
    have:=(hlen i hi).choose_spec.choose_spec
    simp only[L,hi,dif_pos]
    exact⟨_,this⟩
   clear_value L
   by_cases hbig:∃i,i<len∧1100<L i
   ·refine⟨false,fun w kw=>?_,fun q=>by cases q⟩
    have hmin:∃i,i<len∧1100<L i∧∀j,j<i→L j≤1100:=by
     obtain⟨i,hi,hb2⟩:=hbig
     induction i using Nat.strongRecOn with
     |_ i ih=>
      by_cases q:∃j,j<i∧1100<L j
      ·obtain⟨j,hj,hj2⟩:=q
       exact ih j hj (by omega) hj2
      ·exact⟨i,hi,hb2,fun j hj=>by
        rcases Nat.lt_or_ge 1100 (L j)with r|r
        ·exact absurd ⟨j,hj,r⟩ q
        ·exact r⟩
    obtain⟨i0,hi0,hb2,hbefore⟩:=hmin
    have HB:=qh hbefore
    have HLL:=qh hL
    clear hlen hL hall hacts hbefore hbig
    go_enter Tryz.func6,Tryz.ntmps6
    go_wp2_with fail
    go_loop [5] (fun t=>∃i:Nat,t=.int .i64 i∧i≤i0) (fun t=>i0 - (intOf t).toNat)
    case atStart=>exact⟨0,rfl,Nat.zero_le _⟩
    case round=>
     obtain⟨i,rfl,hi⟩:=hrel
     obtain⟨ba,bc,hc⟩:=HLL.out i (by omega)
     have hc2:=(kw.cell (p:=⟨b,off+i*9+2,none⟩) hb (fun h=>h)).trans hc
     have g1:(i:Int)<(len:Int):=by omega
     have g0:(0:Int)≤(i:Int):=by omega
     clear hc
     by_cases hgo:i<i0
     ·have g2:¬(1100:Int)<(L i:Int):=by have:=HB.out i hgo;omega
      go_wp2_with fail
      go_round
      case rel=>exact⟨i+1,by go_num,by omega⟩
      case measure=>simp[intOf];omega
     ·have e:i=i0:=by omega
      subst e
      have g2:(1100:Int)<(L i:Int):=by omega
      go_wp2_with fail
      go_ret
      exact⟨rfl,rfl⟩
   ·refine⟨true,fun w kw=>?_,fun _=>by omega⟩
    have hsm:∀i,i<len→L i≤1100:=fun i hi=>by
     rcases Nat.lt_or_ge 1100 (L i)with r|r
     ·exact absurd ⟨i,hi,r⟩ hbig
     ·exact r
    have HB:=qh hsm
    have HLL:=qh hL
    clear hlen hL hall hacts hsm hbig
    go_enter Tryz.func6,Tryz.ntmps6
    go_wp2_with fail
    go_loop [5] (fun t=>∃i:Nat,t=.int .i64 i∧i≤len) (fun t=>len - (intOf t).toNat)
    case atStart=>exact⟨0,rfl,Nat.zero_le _⟩
    case round=>
     obtain⟨i,rfl,hi⟩:=hrel
     by_cases hgo:i<len
     ·obtain⟨ba,bc,hc⟩:=HLL.out i hgo
      have hc2:=(kw.cell (p:=⟨b,off+i*9+2,none⟩) hb (fun h=>h)).trans hc
      have g1:(i:Int)<(len:Int):=by omega
      have g0:(0:Int)≤(i:Int):=by omega
      have g2:¬(1100:Int)<(L i:Int):=by have:=HB.out i hgo;omega
      clear hc
      go_wp2_with fail
      go_round
      case rel=>exact⟨i+1,by go_num,by omega⟩
      case measure=>simp[intOf];omega
     ·have g1:¬(i:Int)<(len:Int):=by omega
      go_wp2_with fail
      go_ret
      exact⟨rfl,rfl⟩
end Go.Proofs.YtmiglhlbhbfodaaGreatDoor
