/- GBr: Bm7, BmR2, BmR3, BmR4, BmR7, BmR8, BmR5. -/
import Derived.Test.YtmiglhlbhbfodaaGreatDoorGBmC
import Derived.Test.YtmiglhlbhbfodaaGreatDoorBm6
import Derived.Test.YtmiglhlbhbfodaaGreatDoorBm3
import Derived.Test.YtmiglhlbhbfodaaGreatDoorSl2
set_option maxHeartbeats 800000
set_option maxRecDepth 100000
namespace Go.Proofs.YtmiglhlbhbfodaaGreatDoor
section
open Go.RowKit
theorem beq_at(x y:Nat):((x:Int) !=(y:Int))= !(decide (x=y)):=by
 by_cases h:x=y
 ·subst h;simp
 ·have:¬(x:Int)=y:=by omega
  simp[h,this]
theorem eq_of_all{xs ys:List Nat}(hl:xs.length=ys.length)(h:∀j,j<xs.length→xs[j]? =ys[j]?):xs=ys:=by
 apply List.ext_getElem?
 intro i
 by_cases hi:i<xs.length
 ·exact h i hi
 ·rw[List.getElem?_eq_none (by omega),List.getElem?_eq_none (by omega)]
def sameB(s t:Int)(xs ys:List Nat):Bool:=decide (s=t)&&decide (xs=ys)
end
section
open Go.RowKit
theorem rb_same(s t:Int)(a b:Option Addr)(ca cb:Nat)(xs ys:List Nat)(w:World)(hl:xs.length<9223372036854775808)(hx:NatsAt w .u64 a xs)(hy:NatsAt w .u64 b ys):
 Calls Tryz.prog 59 #[mapV s a xs.length ca,mapV t b ys.length cb] w fun e w'=>e=.returned (.bool (sameB s t xs ys))∧Same w w':=by
 have HX:=qh hx;have HY:=qh hy
 clear hx hy
 by_cases hst:s=t
 ·subst hst
  by_cases hn:xs.length=ys.length
  ·obtain⟨r,hr⟩:∃r,sameB s s xs ys=r:=⟨_,rfl⟩
   rw[hr]
   have HR:Hid (decide (xs=ys)=r):=by show _=_;rw[←hr];simp[sameB]
   clear hr
   rw[←hn]
   have HN:=qh hn;clear hn
   generalize hlen:xs.length=l at hl ⊢
   have HLen:=qh hlen;clear hlen
   go_enter Tryz.func59,Tryz.ntmps59
   go_wp2_with fail
   go_loopw [5] (fun i wr=>∃(k:Nat),k≤l∧Hid (∀j,j<k→xs[j]? =ys[j]?)∧i=.int .i64 (k:Nat)∧Hid (Blk wr w.heap.size #[.int .i64 s,.slice a l ca] 105)∧Hid (Blk wr (w.heap.size+1) #[.int .i64 s,.slice b l cb] 105)∧Hid (Same w wr)) (fun i _=>l - (intOf i).toNat)
   case atStart=>exact⟨0,Nat.zero_le _,(fun j h=>by omega),rfl,(Blk.new w _ _).alloc _,Blk.new' _ _ _ (by simp),((Kept.refl _ w).alloc _).alloc _⟩
   case round=>
    obtain⟨k,hk,hp,rfl,b1,b2,hs⟩:=hrel
    have q1:wr.cell? ⟨w.heap.size,1,none⟩=some (.slice a l ca):=b1.out.cell 1 rfl
    have q2:wr.cell? ⟨w.heap.size+1,1,none⟩=some (.slice b l cb):=b2.out.cell 1 rfl
    by_cases hlt:k<l
    ·obtain⟨g1,off1,x,rfl,hb1,hx1,hc1⟩:=(HX.out.same hs.out).at (i:=k) (by rw[HLen.out];omega)
     obtain⟨g2,off2,y,rfl,hb2,hx2,hc2⟩:=(HY.out.same hs.out).at (i:=k) (by rw[←HN.out,HLen.out];omega)
     have H1:=qh hx1;have H2:=qh hx2
     clear hx1 hx2 hb1 hb2
     by_cases hxy:x=y
     ·subst hxy
      go_wp2_with fail
      go_quiet (fail)
      go_wp2_with fail
      go_roundw
      case rel=>
       refine⟨k+1,by omega,?_,by go_num,b1.out.drewN _,b2.out.drewN _,hs.out.drewN _⟩
       show∀j,j<k+1→xs[j]? =ys[j]?
       intro j hj
       by_cases hjk:j<k
       ·exact hp.out j hjk
       ·rw[show j=k from by omega,H1.out,H2.out]
      case measure=>simp[intOf];omega
     ·have hxy':((x:Int) !=(y:Int))=true:=by rw[beq_at];simp[hxy]
      go_wp2_with fail
      go_quiet (fail)
      go_wp2_with fail
      go_ret
      refine⟨?_,hs.out.drewN _⟩
      have:r=false:=by
       rw[←HR.out]
       apply decide_eq_false
       intro e
       have h1:=H1.out
       rw[e,H2.out]at h1
       simp at h1
       omega
      rw[this];rfl
    ·have e:k=l:=by omega
     subst e
     go_wp2
     go_ret
     refine⟨?_,hs.out⟩
     have:r=true:=by
      rw[←HR.out]
      exact decide_eq_true (eq_of_all HN.out (by rw[HLen.out];exact hp.out))
     rw[this];rfl
  ·have hn':((xs.length:Int) !=(ys.length:Int))=true:=by rw[beq_at];simp[hn]
   have hr:sameB s s xs ys=false:=by simp only[sameB,decide_eq_false (fun e:xs=ys=>hn (by rw[e])),Bool.and_false]
   rw[hr]
   clear hr hn
   generalize xs.length=l1 at*
   generalize ys.length=l2 at*
   go_enter Tryz.func59,Tryz.ntmps59
   go_wp2
   go_ret
   exact⟨rfl,((Kept.refl _ w).alloc _).alloc _⟩
 ·have hr:sameB s t xs ys=false:=by simp[sameB,hst]
  have hst':(s !=t)=true:=by simpa using hst
  rw[hr]
  clear hr
  generalize xs.length=l1 at*
  generalize ys.length=l2 at*
  go_enter Tryz.func59,Tryz.ntmps59
  go_wp2
  go_ret
  exact⟨rfl,((Kept.refl _ w).alloc _).alloc _⟩
end
section
open Go.RowKit
theorem rb_check4(s:Int)(a:Option Addr)(cap:Nat)(ws:List Nat)(w:World)(hw:Words ws)(h:mapOK s ws=false)(hat:NatsAt w .u64 a ws):
 Calls Tryz.prog 142 #[mapV s a ws.length cap] w fun e w'=>e=.returned (.int .i64 4)∧Same w w':=
 (rm_check s a cap ws w hw hat).mono fun _ _ k=>⟨mapOK_if_false s ws h k.1,k.2⟩
theorem rb_check0(s:Int)(a:Option Addr)(cap:Nat)(ws:List Nat)(w:World)(hw:Words ws)(h:mapOK s ws=true)(hat:NatsAt w .u64 a ws):
 Calls Tryz.prog 142 #[mapV s a ws.length cap] w fun e w'=>e=.returned (.int .i64 0)∧Same w w':=
 (rm_check s a cap ws w hw hat).mono fun _ _ k=>⟨mapOK_if_true s ws h k.1,k.2⟩
theorem rb_has(s:Int)(a:Option Addr)(cap:Nat)(ws:List Nat)(n:Int)(w:World)(hw:Words ws)(hat:NatsAt w .u64 a ws):
 Calls Tryz.prog 103 #[mapV s a ws.length cap,.int .i64 n] w fun e w'=>e=.returned (.bool (hasM s ws n))∧Same w w':=by
 have HA:=qh hat;clear hat
 cases hm:mapOK s ws
 ·have HE:hasM s ws n=false:=by simp[hasM,inB,hm]
  rw[HE]
  have CC:=qh fun w' h=>rb_check4 s a cap ws w' hw hm h
  clear hm HE hw
  generalize ws.length=l at*
  go_enter Tryz.func103,Tryz.ntmps103
  go_wp2_with fail
  refine Calls.boxes1 ?_
  intro W g1 k1 _
  refine(CC.out W (HA.out.same k1)).mono ?_
  rintro e w2 ⟨rfl,k2⟩
  have K:=qh (k1.trans k2)
  clear g1 k1 k2
  go_wp2
  go_ret
  exact⟨rfl,K.out⟩
 ·have CC:=qh fun w' h=>rb_check0 s a cap ws w' hw hm h
  cases hin:inB s ws n
  ·have HE:hasM s ws n=false:=by simp[hasM,hin]
   rw[HE]
   simp only[inB,hm,Bool.true_and]at hin
   clear hm HE hw
   generalize ws.length=l at*
   by_cases h0:0≤n
   ·have h1:¬n<s:=by simp[h0]at hin;omega
    clear hin
    go_enter Tryz.func103,Tryz.ntmps103
    go_wp2_with fail
    refine Calls.boxes1 ?_
    intro W g1 k1 _
    refine(CC.out W (HA.out.same k1)).mono ?_
    rintro e w2 ⟨rfl,k2⟩
    have K:=qh (k1.trans k2)
    have G1:=g1.kept k2 (fun h=>h)
    have q0:w2.cell? ⟨w.heap.size,0,none⟩=some (.int .i64 s):=G1.cell 0 rfl
    clear g1 k1 k2 G1
    go_wp2
    go_ret
    exact⟨rfl,K.out⟩
   ·clear hin
    go_enter Tryz.func103,Tryz.ntmps103
    go_wp2_with fail
    refine Calls.boxes1 ?_
    intro W g1 k1 _
    refine(CC.out W (HA.out.same k1)).mono ?_
    rintro e w2 ⟨rfl,k2⟩
    have K:=qh (k1.trans k2)
    clear g1 k1 k2
    go_wp2
    go_ret
    exact⟨rfl,K.out⟩
  ·obtain⟨i0,i1,i2,i3,i4⟩:=inB_index hin
   obtain⟨N,rfl⟩:=Int.eq_ofNat_of_zero_le i0
   rw[Int.toNat_natCast]at i3
   have HE:hasM s ws N=bitN ws N:=by simp[hasM,hin]
   rw[HE]
   have BB:=qh fun w' h=>rb_bit s a cap ws N w' h i3 i4
   clear hm HE hw hin i3
   generalize bitN ws N=r at*
   generalize ws.length=l at*
   go_enter Tryz.func103,Tryz.ntmps103
   go_wp2_with fail
   refine Calls.boxes1 ?_
   intro W g1 k1 _
   refine(CC.out W (HA.out.same k1)).mono ?_
   rintro e w2 ⟨rfl,k2⟩
   have K:=qh (k1.trans k2)
   have G1:=g1.kept k2 (fun h=>h)
   have q0:w2.cell? ⟨w.heap.size,0,none⟩=some (.int .i64 s):=G1.cell 0 rfl
   have q1:w2.cell? ⟨w.heap.size,1,none⟩=some (.slice a l cap):=G1.cell 1 rfl
   clear g1 k1 k2 G1
   go_wp2_with fail
   refine(BB.out w2 (HA.out.same K.out)).mono ?_
   rintro e w3 ⟨rfl,k3⟩
   have K3:=qh (K.out.trans k3)
   clear k3
   go_wp2
   go_ret
   exact⟨rfl,K3.out⟩
end
section
open Go.RowKit
def AtMap(w wr:World)(s:Int)(v:Value):Prop:=Blk wr w.heap.size #[.int .i64 s,v] 105∧Same w wr
theorem AtMap.q0{w wr:World}{s:Int}{v:Value}(h:AtMap w wr s v):wr.cell? ⟨w.heap.size,0,none⟩=some (.int .i64 s):=h.1.cell 0 rfl
theorem AtMap.q1{w wr:World}{s:Int}{v:Value}(h:AtMap w wr s v):wr.cell? ⟨w.heap.size,1,none⟩=some v:=h.1.cell 1 rfl
theorem AtMap.on{w wr w':World}{s:Int}{v:Value}(h:AtMap w wr s v)(k:Same wr w'):AtMap w w' s v:=⟨h.1.kept k (fun h=>h),h.2.trans k⟩
theorem AtMap.new(w:World)(s:Int)(v:Value):AtMap w (w.alloc (.cells #[.int .i64 s,v] 105)) s v:=⟨Blk.new w _ _,(Kept.refl _ w).alloc _⟩
end
section
open Go.RowKit
theorem rb_new_ok(s:Nat)(w:World)(h:s≤4096):
 Calls Tryz.prog 94 #[.int .i64 (s:Nat)] w fun e w'=>∃g,e=.returned (.tuple #[mapV s (some ⟨g,0,none⟩) ((s+63) / 64) ((s+63) / 64),.int .i64 0])∧
  OwnN w' w.heap.size 98 .u64 (.slice (some ⟨g,0,none⟩) ((s+63) / 64) ((s+63) / 64)) (List.replicate ((s+63) / 64) 0)∧Same w w':=by
 obtain⟨i0,hi,hz0,hz1,hz2⟩:=info_parts info64
 have HI:=qh hi;have HZ0:=qh hz0;have HZ1:=qh hz1;have HZ2:=qh hz2
 clear hi hz0 hz1 hz2
 go_enter Tryz.func94,Tryz.ntmps94
 go_wp2_with(first|(go_at_call 136;refine(rb_words s _ h).mono ?_;rintro e w1 ⟨rfl,rfl⟩)|(at_make;refine wpList_make_full _ rfl _ _ 49 rfl w.heap.size 98 i0 (.int .u64 0) 1 Tryz.underlying49 HI.out HZ0.out HZ1.out .i64 .i64 _ _ ((s+63) / 64) rfl rfl rfl rfl (by rw[HZ2.out];omega) (by unfold maxLen;omega) (by simp) ?_;intro w1 hown hgrow;have HO:=qh (OwnN.made hown);have HK:=qh (((Kept.refl (fun _=>False) w).alloc _).grownNew hgrow (by simp));have KA:=(Kept.refl (fun _=>False) (w.alloc (.cells #[.int .i64 0,.slice none 0 0] 105))).grownNew hgrow (by simp);have G:=(Blk.new w _ _).kept KA (fun h=>h);have q0:w1.cell? ⟨w.heap.size,0,none⟩=some (.int .i64 0):=G.cell 0 rfl;have q1:w1.cell? ⟨w.heap.size,1,none⟩=some (.slice none 0 0):=G.cell 1 rfl;have f0:∀i,w1.frozen? ⟨w.heap.size,i,none⟩=false:=G.free;have GG:=qh G;clear hown hgrow KA G))
 have p:=(GG.out.set 0 (.int .i64 (s:Nat))).set 1 (.slice (some ⟨w.heap.size+1,0,none⟩) ((s+63) / 64) ((s+63) / 64))
 have p0:=p.cell 0 (v:=.int .i64 (s:Nat)) rfl
 have p1:=p.cell 1 (v:=.slice (some ⟨w.heap.size+1,0,none⟩) ((s+63) / 64) ((s+63) / 64)) rfl
 refine bodyPost_ret (v:=.tuple #[mapV s (some ⟨w.heap.size+1,0,none⟩) ((s+63) / 64) ((s+63) / 64),.int .i64 0]) (by simp[results,Tryz.results94,go_sem,p0,p1]) rfl ?_
 have KK:=(Kept.refl (fun k=>k=w.heap.size) w1).setG 0 (.int .i64 (s:Nat))|>.setG 1 (.slice (some ⟨w.heap.size+1,0,none⟩) ((s+63) / 64) ((s+63) / 64))
 refine⟨w.heap.size+1,rfl,?_,(HK.out.setNew (Nat.le_refl _) _).setNew (Nat.le_refl _) _⟩
 have HO1:=HO.out
 rw[World.size_alloc]at HO1
 exact(HO1.base (by omega)).kept KK (fun g hg=>by simp[Value.ownBlock]at hg;omega)
end
section
open Go.RowKit
def MapAt(w:World)(s:Int)(ws:List Nat)(e:Ending)(w':World):Prop:=
 ∃v c,e=.returned (mapV s v ws.length c)∧NatsAt w' .u64 v ws∧(v=none→c=0)∧Same w w'
def MapAtF(w:World)(a0:Option Addr)(s:Int)(ws:List Nat)(e:Ending)(w':World):Prop:=
 ∃v c,e=.returned (mapV s v ws.length c)∧NatsAt w' .u64 v ws∧(v=none→c=0)∧(v=a0∨∀x,v=some x→w.heap.size≤x.block)∧Same w w'
theorem MapAtF.at{w:World}{a0:Option Addr}{s:Int}{ws:List Nat}{e:Ending}{w':World}(h:MapAtF w a0 s ws e w'):MapAt w s ws e w':=by
 obtain⟨v,c,h1,h2,h3,_,h5⟩:=h
 exact⟨v,c,h1,h2,h3,h5⟩
theorem putBit_self(x k:Nat)(on:Bool)(h:x.testBit k=on):putBit x k on=x:=by simp[putBit,h]
theorem setN_same{s:Int}{ws:List Nat}{n:Int}{on:Bool}(h:bitN ws n.toNat=on):setN s ws n on=ws:=by
 unfold setN
 split
 ·unfold putN
  rw[putBit_self _ _ _ h]
  by_cases hi:n.toNat / 64<ws.length
  ·rw[List.getD,List.getElem?_eq_getElem hi]
   simp
  ·rw[List.set_eq_of_length_le (by omega)]
 ·rfl
theorem rb_set_same(s:Int)(a:Option Addr)(cap:Nat)(ws:List Nat)(n:Int)(on:Bool)(w:World)(hw:Words ws)(hnil:a=none→cap=0)(hat:NatsAt w .u64 a ws)
 (h:mapOK s ws=false∨n<0∨s≤n∨bitN ws n.toNat=on):
 Calls Tryz.prog 116 #[mapV s a ws.length cap,.int .i64 n,.bool on] w (MapAtF w a s ws):=by
 have HA:=qh hat;clear hat
 have HNil:=qh hnil;clear hnil
 cases hm:mapOK s ws
 ·have CC:=qh fun w' h=>rb_check4 s a cap ws w' hw hm h
  clear hm hw h
  generalize hl:ws.length=l at CC ⊢
  have HL:=qh hl;clear hl
  go_enter Tryz.func116,Tryz.ntmps116
  go_wp2_with fail
  refine Calls.boxes2 ?_
  intro W g1 g2 k1 _
  refine(CC.out W (HA.out.same k1)).mono ?_
  rintro e w2 ⟨rfl,k2⟩
  have K:=qh (k1.trans k2)
  have G1:=qh (g1.kept k2 (fun h=>h))
  have G2:=qh (g2.kept k2 (fun h=>h))
  have q0:w2.cell? ⟨w.heap.size,0,none⟩=some (.int .i64 s):=G1.out.cell 0 rfl
  have q1:w2.cell? ⟨w.heap.size,1,none⟩=some (.slice a l cap):=G1.out.cell 1 rfl
  have q2:w2.cell? ⟨w.heap.size+1,0,none⟩=some (.int .i64 0):=G2.out.cell 0 rfl
  have q3:w2.cell? ⟨w.heap.size+1,1,none⟩=some (.slice none 0 0):=G2.out.cell 1 rfl
  have f2:∀i,w2.frozen? ⟨w.heap.size+1,i,none⟩=false:=G2.out.free
  clear g1 g2 k1 k2
  go_wp2_with fail
  have p:=(G2.out.set 0 (.int .i64 s)).set 1 (.slice a l cap)
  have p0:=p.cell 0 (v:=.int .i64 s) rfl
  have p1:=p.cell 1 (v:=.slice a l cap) rfl
  have KS:=(K.out.setNew (p:=⟨w.heap.size+1,0,none⟩) (by show _≤_+1;omega) (.int .i64 s)).setNew (p:=⟨w.heap.size+1,1,none⟩) (by show _≤_+1;omega) (.slice a l cap)
  exact bodyPost_ret (v:=mapV s a l cap) (by simp[results,Tryz.results116,go_sem,p0,p1]) rfl ⟨a,cap,by rw[HL.out],HA.out.same KS,HNil.out,.inl rfl,KS⟩
 ·have CC:=qh fun w' h=>rb_check0 s a cap ws w' hw hm h
  by_cases h0:n<0
  ·clear hm hw h
   generalize hl:ws.length=l at CC ⊢
   have HL:=qh hl;clear hl
   go_enter Tryz.func116,Tryz.ntmps116
   go_wp2_with fail
   refine Calls.boxes2 ?_
   intro W g1 g2 k1 _
   refine(CC.out W (HA.out.same k1)).mono ?_
   rintro e w2 ⟨rfl,k2⟩
   have K:=qh (k1.trans k2)
   have G1:=qh (g1.kept k2 (fun h=>h))
   have G2:=qh (g2.kept k2 (fun h=>h))
   have q0:w2.cell? ⟨w.heap.size,0,none⟩=some (.int .i64 s):=G1.out.cell 0 rfl
   have q1:w2.cell? ⟨w.heap.size,1,none⟩=some (.slice a l cap):=G1.out.cell 1 rfl
   have q2:w2.cell? ⟨w.heap.size+1,0,none⟩=some (.int .i64 0):=G2.out.cell 0 rfl
   have q3:w2.cell? ⟨w.heap.size+1,1,none⟩=some (.slice none 0 0):=G2.out.cell 1 rfl
   have f2:∀i,w2.frozen? ⟨w.heap.size+1,i,none⟩=false:=G2.out.free
   clear g1 g2 k1 k2
   go_wp2_with fail
   have p:=(G2.out.set 0 (.int .i64 s)).set 1 (.slice a l cap)
   have p0:=p.cell 0 (v:=.int .i64 s) rfl
   have p1:=p.cell 1 (v:=.slice a l cap) rfl
   have KS:=(K.out.setNew (p:=⟨w.heap.size+1,0,none⟩) (by show _≤_+1;omega) (.int .i64 s)).setNew (p:=⟨w.heap.size+1,1,none⟩) (by show _≤_+1;omega) (.slice a l cap)
   exact bodyPost_ret (v:=mapV s a l cap) (by simp[results,Tryz.results116,go_sem,p0,p1]) rfl ⟨a,cap,by rw[HL.out],HA.out.same KS,HNil.out,.inl rfl,KS⟩
  ·by_cases h1:s≤n
   ·clear hm hw h
    have h2:decide (n≥s)=true:=decide_eq_true h1
    generalize hl:ws.length=l at CC ⊢
    have HL:=qh hl;clear hl
    go_enter Tryz.func116,Tryz.ntmps116
    go_wp2_with fail
    refine Calls.boxes2 ?_
    intro W g1 g2 k1 _
    refine(CC.out W (HA.out.same k1)).mono ?_
    rintro e w2 ⟨rfl,k2⟩
    have K:=qh (k1.trans k2)
    have G1:=qh (g1.kept k2 (fun h=>h))
    have G2:=qh (g2.kept k2 (fun h=>h))
    have q0:w2.cell? ⟨w.heap.size,0,none⟩=some (.int .i64 s):=G1.out.cell 0 rfl
    have q1:w2.cell? ⟨w.heap.size,1,none⟩=some (.slice a l cap):=G1.out.cell 1 rfl
    have q2:w2.cell? ⟨w.heap.size+1,0,none⟩=some (.int .i64 0):=G2.out.cell 0 rfl
    have q3:w2.cell? ⟨w.heap.size+1,1,none⟩=some (.slice none 0 0):=G2.out.cell 1 rfl
    have f2:∀i,w2.frozen? ⟨w.heap.size+1,i,none⟩=false:=G2.out.free
    clear g1 g2 k1 k2
    go_wp2_with fail
    have p:=(G2.out.set 0 (.int .i64 s)).set 1 (.slice a l cap)
    have p0:=p.cell 0 (v:=.int .i64 s) rfl
    have p1:=p.cell 1 (v:=.slice a l cap) rfl
    have KS:=(K.out.setNew (p:=⟨w.heap.size+1,0,none⟩) (by show _≤_+1;omega) (.int .i64 s)).setNew (p:=⟨w.heap.size+1,1,none⟩) (by show _≤_+1;omega) (.slice a l cap)
    exact bodyPost_ret (v:=mapV s a l cap) (by simp[results,Tryz.results116,go_sem,p0,p1]) rfl ⟨a,cap,by rw[HL.out],HA.out.same KS,HNil.out,.inl rfl,KS⟩
   ·have hb:bitN ws n.toNat=on:=by rcases h with h|h|h|h;rw[hm]at h;cases h;omega;omega;exact h
    obtain⟨N,rfl⟩:=Int.eq_ofNat_of_zero_le (show 0≤n by omega)
    have p1:=mapOK_pos hm
    have p2:=mapOK_len hm
    have BB:=qh fun w' h=>rb_bit s a cap ws N w' h (by omega) (by omega)
    rw[Int.toNat_natCast]at hb
    rw[hb]at BB
    have hbb:(on==on)=true:=by simp
    have h2:decide ((N:Int)≥s)=false:=decide_eq_false (by omega)
    clear hm hw h p1 p2 hb
    generalize hl:ws.length=l at CC BB ⊢
    have HL:=qh hl;clear hl
    go_enter Tryz.func116,Tryz.ntmps116
    go_wp2_with fail
    refine Calls.boxes2 ?_
    intro W g1 g2 k1 _
    refine(CC.out W (HA.out.same k1)).mono ?_
    rintro e w2 ⟨rfl,k2⟩
    have K:=qh (k1.trans k2)
    have G1:=qh (g1.kept k2 (fun h=>h))
    have G2:=qh (g2.kept k2 (fun h=>h))
    have q0:w2.cell? ⟨w.heap.size,0,none⟩=some (.int .i64 s):=G1.out.cell 0 rfl
    have q1:w2.cell? ⟨w.heap.size,1,none⟩=some (.slice a l cap):=G1.out.cell 1 rfl
    clear g1 g2 k1 k2
    go_wp2_with fail
    refine(BB.out w2 (HA.out.same K.out)).mono ?_
    rintro e w3 ⟨rfl,k3⟩
    have K:=qh (K.out.trans k3)
    have G1:=qh (G1.out.kept k3 (fun h=>h))
    have G2:=qh (G2.out.kept k3 (fun h=>h))
    clear q0 q1 k3
    have q0:w3.cell? ⟨w.heap.size,0,none⟩=some (.int .i64 s):=G1.out.cell 0 rfl
    have q1:w3.cell? ⟨w.heap.size,1,none⟩=some (.slice a l cap):=G1.out.cell 1 rfl
    have q2:w3.cell? ⟨w.heap.size+1,0,none⟩=some (.int .i64 0):=G2.out.cell 0 rfl
    have q3:w3.cell? ⟨w.heap.size+1,1,none⟩=some (.slice none 0 0):=G2.out.cell 1 rfl
    have f2:∀i,w3.frozen? ⟨w.heap.size+1,i,none⟩=false:=G2.out.free
    go_wp2_with fail
    have p:=(G2.out.set 0 (.int .i64 s)).set 1 (.slice a l cap)
    have p0:=p.cell 0 (v:=.int .i64 s) rfl
    have p1:=p.cell 1 (v:=.slice a l cap) rfl
    have KS:=(K.out.setNew (p:=⟨w.heap.size+1,0,none⟩) (by show _≤_+1;omega) (.int .i64 s)).setNew (p:=⟨w.heap.size+1,1,none⟩) (by show _≤_+1;omega) (.slice a l cap)
    exact bodyPost_ret (v:=mapV s a l cap) (by simp[results,Tryz.results116,go_sem,p0,p1]) rfl ⟨a,cap,by rw[HL.out],HA.out.same KS,HNil.out,.inl rfl,KS⟩
end
section
open Go.RowKit
theorem rb_rank(s:Int)(a:Option Addr)(cap:Nat)(ws:List Nat)(n:Int)(w:World)(hw:Words ws)(hat:NatsAt w .u64 a ws):
 Calls Tryz.prog 101 #[mapV s a ws.length cap,.int .i64 n] w fun e w'=>e=.returned (.int .i64 ((rankN s ws n:Nat):Int))∧Same w w':=by
 have HA:=qh hat;clear hat
 cases hm:mapOK s ws
 ·have CC:=qh fun w' h=>rb_check4 s a cap ws w' hw hm h
  have e:rankN s ws n=0:=by simp[rankN,hm]
  rw[e]
  clear hm hw e
  generalize ws.length=l at*
  go_enter Tryz.func101,Tryz.ntmps101
  go_wp2_with fail
  go_loopw [5,6] (fun k i wr=>k=.int .i64 0∧i=.int .i64 0∧Hid (AtMap w wr s (.slice a l cap))) (fun _ _ _=>0)
  case atStart=>exact⟨rfl,rfl,AtMap.new _ _ _⟩
  case round=>
   obtain⟨rfl,rfl,hs⟩:=hrel
   have q0:=hs.out.q0
   have q1:=hs.out.q1
   by_cases h0:0<n
   ·by_cases hlt:(0:Int)<s
    ·go_wp2_with fail
     refine(CC.out wr (HA.out.same hs.out.2)).mono ?_
     rintro e w2 ⟨rfl,k2⟩
     have K:=qh (hs.out.2.trans k2)
     clear k2
     go_wp2_with fail
     go_ret
     exact⟨rfl,K.out⟩
    ·go_wp2_with fail
     go_ret
     exact⟨rfl,hs.out.2⟩
   ·go_wp2_with fail
    go_ret
    exact⟨rfl,hs.out.2⟩
 ·have CC:=qh fun w' h=>rb_check0 s a cap ws w' hw hm h
  have p1:=mapOK_pos hm
  obtain⟨S,rfl⟩:=Int.eq_ofNat_of_zero_le p1.1
  have p2:=mapOK_len hm
  rw[Int.toNat_natCast]at p2
  have BB:=qh fun(n:Nat) (hn:n<S) w' h=>rb_bit S a cap ws n w' h (by omega) (by omega)
  have hS:S≤4096:=by omega
  obtain⟨m,hmm⟩:∃m,(min n (S:Int)).toNat=m:=⟨_,rfl⟩
  have e:rankN S ws n=cnt ws m:=by simp only[rankN,hm,if_true,hmm]
  rw[e]
  have hmS:m≤S:=by omega
  have hmn:m≠S→(m:Int)=n∨(m=0∧n≤0):=by omega
  have hmn2:0<m→(m:Int)≤n:=by omega
  have HMN:=qh hmn;have HMN2:=qh hmn2
  clear hm hw p1 p2 e hmm hmn hmn2
  obtain⟨res,hres⟩:∃res,cnt ws m=res:=⟨_,rfl⟩
  rw[hres]
  have HRes:=qh hres;clear hres
  generalize ws.length=l at*
  go_enter Tryz.func101,Tryz.ntmps101
  go_wp2_with fail
  go_loopw [5,6] (fun k i wr=>∃j c:Nat,j≤m∧c≤j∧Hid (cnt ws j=c)∧k=.int .i64 (c:Nat)∧i=.int .i64 (j:Nat)∧Hid (AtMap w wr S (.slice a l cap))) (fun _ i _=>m - (intOf i).toNat)
  case atStart=>exact⟨0,0,Nat.zero_le _,Nat.le_refl _,rfl,rfl,rfl,AtMap.new _ _ _⟩
  case round=>
   obtain⟨j,c,hj,hc,hp,rfl,rfl,hs⟩:=hrel
   have q0:=hs.out.q0
   have q1:=hs.out.q1
   by_cases hlt:j<m
   ·have h1:(j:Int)<n:=by have:=HMN2.out (by omega);omega
    have h2:(j:Int)<(S:Int):=by omega
    go_wp2_with fail
    refine(CC.out wr (HA.out.same hs.out.2)).mono ?_
    rintro e w2 ⟨rfl,k2⟩
    have hs2:=qh (hs.out.on k2)
    clear k2 q0 q1
    have q0:=hs2.out.q0
    have q1:=hs2.out.q1
    have BC:=qh (BB.out j (by omega) w2 (HA.out.same hs2.out.2))
    cases hb:bitN ws j
    ·rw[hb]at BC
     have HB:Hid (cnt ws (j+1)=c):=by show _=_;rw[cnt,hb,hp.out];rfl
     clear hb
     go_wp2_with fail
     refine BC.out.mono ?_
     rintro e w3 ⟨rfl,k3⟩
     have hs3:=qh (hs2.out.on k3)
     clear k3
     go_wp2_with fail
     go_roundw
     case rel=>exact⟨j+1,c,by omega,by omega,HB.out,rfl,by go_num,hs3.out⟩
     case measure=>simp[intOf];omega
    ·rw[hb]at BC
     have HB:Hid (cnt ws (j+1)=c+1):=by show _=_;rw[cnt,hb,hp.out];rfl
     clear hb
     go_wp2_with fail
     refine BC.out.mono ?_
     rintro e w3 ⟨rfl,k3⟩
     have hs3:=qh (hs2.out.on k3)
     clear k3
     go_wp2_with fail
     go_roundw
     case rel=>exact⟨j+1,c+1,by omega,by omega,HB.out,by go_num,by go_num,hs3.out⟩
     case measure=>simp[intOf];omega
   ·have ej:j=m:=by omega
    subst ej
    have er:c=res:=hp.out.symm.trans HRes.out
    by_cases hjS:j=S
    ·have h2:¬(j:Int)<(S:Int):=by omega
     by_cases h1:(j:Int)<n
     ·go_wp2_with fail
      go_ret
      exact⟨by rw[←er];rfl,hs.out.2⟩
     ·go_wp2_with fail
      go_ret
      exact⟨by rw[←er];rfl,hs.out.2⟩
    ·have h1:¬(j:Int)<n:=by have:=HMN.out hjS;omega
     go_wp2_with fail
     go_ret
     exact⟨by rw[←er];rfl,hs.out.2⟩
end
end Go.Proofs.YtmiglhlbhbfodaaGreatDoor
