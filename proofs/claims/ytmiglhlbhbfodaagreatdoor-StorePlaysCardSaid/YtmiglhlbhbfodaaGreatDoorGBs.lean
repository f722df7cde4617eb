/- GBs: BmR9, BmR10, BmR11. -/
import Derived.Test.YtmiglhlbhbfodaaGreatDoorGBr
import Derived.IntWalk
import Derived.Test.YtmiglhlbhbfodaaGreatDoorMix
import Derived.Test.YtmiglhlbhbfodaaGreatDoorAuto
set_option maxHeartbeats 800000
set_option maxRecDepth 100000
namespace Go.Proofs.YtmiglhlbhbfodaaGreatDoor
section
open Go.RowKit
theorem own_some{w:World}{base l:Nat}{e:TypeId}{k:IntKind}{v:Value}{xs:List Nat}(h:OwnN w base e k v ([]++xs))(hl:xs.length=l)(hx:0<l):
 ∃g c,v=.slice (some ⟨g,0,none⟩) l c∧base≤g∧g<w.heap.size∧OwnN w base e k (.slice (some ⟨g,0,none⟩) l c) xs:=by
 rw[List.nil_append]at h
 subst hl
 obtain⟨A,C,rfl,r1,r2,r3,r4,r5⟩:=h.read
 cases A with
 |none=>have:=r3 rfl;omega
 |some x=>
  obtain⟨h1,h2,h3,h4⟩:=r5 x rfl
  obtain⟨g,o,sp⟩:=x
  simp only at h1 h2 h3 h4
  subst h3 h4
  exact⟨g,C,rfl,h1,h2,h⟩
theorem map_grown{w w':World}{g r:Nat}{row:Option Nat}(h:Blk w g #[.int .i64 0,.slice none 0 0] 105)(hg:w.grownBy w' row)(hr:row=some r)(hne:g≠r):
 w'.cell? ⟨g,0,none⟩=some (.int .i64 0)∧w'.cell? ⟨g,1,none⟩=some (.slice none 0 0)∧(∀i,w'.frozen? ⟨g,i,none⟩=false)∧Blk w' g #[.int .i64 0,.slice none 0 0] 105:=by
 subst hr
 have k:=(Kept.refl (fun j=>j=r) w).grown hg (fun k hk _=>by cases hk;rfl)
 have b:=h.kept k hne
 exact⟨b.cell 0 rfl,b.cell 1 rfl,b.free,b⟩
theorem rb_set_put(S N:Nat)(b off cap:Nat)(ws:List Nat)(on:Bool)(w:World)(hw:Words ws)(hat:NatsAt w .u64 (some ⟨b,off,none⟩) ws)
 (hm:mapOK S ws=true) (hN:N<S) (hb:bitN ws N= !on):
 Calls Tryz.prog 116 #[mapV S (some ⟨b,off,none⟩) ws.length cap,.int .i64 (N:Nat),.bool on] w (MapAtF w (some ⟨b,off,none⟩) S (putN ws N on)):=by
 have HA:=qh hat;clear hat
 have CC:=qh fun w' h=>rb_check0 S (some ⟨b,off,none⟩) cap ws w' hw hm h
 have p1:=mapOK_pos hm
 have p2:=mapOK_len hm
 rw[Int.toNat_natCast]at p2
 have hi:N / 64<ws.length:=by omega
 have hl64:ws.length≤64:=by omega
 have BB:=qh fun w' h=>rb_bit S (some ⟨b,off,none⟩) cap ws N w' h hi hl64
 rw[hb]at BB
 have hbb:(!on==on)=false:=by cases on<;>rfl
 have h2:decide ((N:Int)≥(S:Int))=false:=decide_eq_false (by omega)
 have hS:S≤4096:=by omega
 have HW:=qh hw;have HB:=qh hb
 clear hm hw p1 p2 hb
 generalize hl:ws.length=l at CC BB hi hl64 ⊢
 have HL:=qh hl;clear hl
 go_enter Tryz.func116,Tryz.ntmps116
 go_wp2_with fail
 refine Calls.boxes2 ?_
 intro W g1 g2 k1 _
 refine(CC.out W (HA.out.same k1)).mono ?_
 rintro e w2 ⟨rfl,k2⟩
 have K:=qh (k1.trans k2)
 have G1:=qh (g1.kept k2 (fun h=>h))
 have G2:=qh (g2.kept k2 (fun h=>h))
 have q0:w2.cell? ⟨w.heap.size,0,none⟩=some (.int .i64 S):=G1.out.cell 0 rfl
 have q1:w2.cell? ⟨w.heap.size,1,none⟩=some (.slice (some ⟨b,off,none⟩) l cap):=G1.out.cell 1 rfl
 clear g1 g2 k1 k2
 go_wp2_with fail
 refine(BB.out w2 (HA.out.same K.out)).mono ?_
 rintro e w3 ⟨rfl,k3⟩
 have K:=qh (K.out.trans k3)
 have G1:=qh (G1.out.kept k3 (fun h=>h))
 have G2:=qh (G2.out.kept k3 (fun h=>h))
 clear q0 q1 k3
 have q0:w3.cell? ⟨w.heap.size,0,none⟩=some (.int .i64 S):=G1.out.cell 0 rfl
 have q1:w3.cell? ⟨w.heap.size,1,none⟩=some (.slice (some ⟨b,off,none⟩) l cap):=G1.out.cell 1 rfl
 have QQ:Hid (∀w',Same w3 w'→w'.cell? ⟨w.heap.size,0,none⟩=some (.int .i64 S)∧w'.cell? ⟨w.heap.size,1,none⟩=some (.slice (some ⟨b,off,none⟩) l cap)):=by
  intro w' kk
  exact⟨(G1.out.kept kk (fun h=>h)).cell 0 rfl,(G1.out.kept kk (fun h=>h)).cell 1 rfl⟩
 have hlt1:w.heap.size+1<w3.heap.size:=G2.out.lt
 have KN:=qh (Kept.refl (fun _=>False) w3)
 have MLA:=qh fun(wa w5:World) (h:Blk wa w3.heap.size #[.int .i64 0,.slice none 0 0] 105) (hg:wa.grownBy w5 (Value.ownBlock (.slice (some ⟨w3.heap.size+1,0,none⟩) 0 0)))=>map_grown (r:=w3.heap.size+1) h hg rfl (by omega)
 have MLB:=qh fun(wa w5:World) (h:Blk wa (w3.heap.size+1) #[.int .i64 0,.slice none 0 0] 105) (hg:wa.grownBy w5 (Value.ownBlock (.slice (some ⟨w3.heap.size,0,none⟩) 0 0)))=>map_grown (r:=w3.heap.size) h hg rfl (by omega)
 have hne0:0<l:=by omega
 have hlen8:(([]:List Nat).length+ws.length)*8≤140737488355328:=by rw[HL.out];simp;omega
 go_wp2_with fail
 go_region_held3 (fun w'=>w'.cell? ⟨w.heap.size,0,none⟩=some (.int .i64 S)∧w'.cell? ⟨w.heap.size,1,none⟩=some (.slice (some ⟨b,off,none⟩) l cap))
  (exact QQ.out _ (by repeat(first|exact KN.out|with_reducible refine Kept.drew ?_ |with_reducible refine Kept.alloc ?_ _|refine Kept.setNew ?_ (by first|(simp;done)|(simp;omega)) _)))
  ((refine step_appendN rfl _ _ 49 rfl w3.heap.size 98 .u64 8 Tryz.underlying49 info64 (by omega) _ [] rfl (OwnN.blk (by repeat(first|exact Blk.new' _ _ _ (by simp)|with_reducible refine Blk.drew ?_ |with_reducible refine Blk.alloc ?_ _)) rfl (by simp) (by simp[maxLen])) _ _ _ ws rfl HL.out.symm (HA.out.same (K.out.trans (by repeat(first|exact KN.out|with_reducible refine Kept.drew ?_ |with_reducible refine Kept.alloc ?_ _)))) (fun h=>by cases h) hlen8 (by first|(simp;done)|(simp;omega)) ?_;intro v' w5 ho hg hv;obtain⟨g,C,rfl,r1,r2,ho2⟩:=own_some ho HL.out hne0;have KM:=qh (show Same w3 w5 from Kept.grownNew (by repeat(first|exact KN.out|with_reducible refine Kept.drew ?_ |with_reducible refine Kept.alloc ?_ _)) hg (by(intro k hk;(try simp only[World.size_alloc,World.drew_size]at hk);first|(cases hk;simp;done)|(cases hk;simp;omega))));have HO:=qh ho2;clear ho2;(try(have MA:=MLA.out _ _ (by first|exact((Blk.new' _ _ _ (by simp)).alloc _).drew|exact(Blk.new' _ _ _ (by simp)).alloc _) hg;obtain⟨MA0,MA1,MAf,MA2⟩:=MA;have MM:=qh MA2;clear MA2));(try(have MB:=MLB.out _ _ (by first|exact(Blk.new' _ _ _ (by simp)).drew|exact Blk.new' _ _ _ (by simp)) hg;obtain⟨MB0,MB1,MBf,MB2⟩:=MB;have MM:=qh MB2;clear MB2));clear KN ho;have KN:=KM;clear KM))
 ·have hne:Hid (g≠w5.heap.size):=by show _≠_;omega
  have G6:=qh (Blk.new w5 #[.int .i64 S,.slice (some ⟨g,0,none⟩) l C] 105)
  have O6:=qh (HO.out.same ((Kept.refl (fun _=>False) w5).alloc (.cells #[.int .i64 S,.slice (some ⟨g,0,none⟩) l C] 105)))
  have K6:=qh (KN.out.alloc (.cells #[.int .i64 S,.slice (some ⟨g,0,none⟩) l C] 105))
  generalize w5.alloc (.cells #[.int .i64 S,.slice (some ⟨g,0,none⟩) l C] 105)=w6 at G6 O6 K6 ⊢
  have q0:w6.cell? ⟨w5.heap.size,0,none⟩=some (.int .i64 S):=G6.out.cell 0 rfl
  have q1:w6.cell? ⟨w5.heap.size,1,none⟩=some (.slice (some ⟨g,0,none⟩) l C):=G6.out.cell 1 rfl
  have R6:=qh (G2.out.kept K6.out (fun h=>h))
  have q2:w6.cell? ⟨w.heap.size+1,0,none⟩=some (.int .i64 0):=R6.out.cell 0 rfl
  have q3:w6.cell? ⟨w.heap.size+1,1,none⟩=some (.slice none 0 0):=R6.out.cell 1 rfl
  have f2:∀i,w6.frozen? ⟨w.heap.size+1,i,none⟩=false:=R6.out.free
  have q4:w6.cell? ⟨g,N / 64,none⟩=some (.int .u64 ((ws.getD (N / 64) 0:Nat):Int)):=O6.out.cell HL.out (by rw[List.getD,List.getElem?_eq_getElem (by rw[HL.out];exact hi)];rfl)
  have f4:∀i,w6.frozen? ⟨g,i,none⟩=false:=O6.out.free HL.out
  obtain⟨x,hx⟩:∃x,ws.getD (N / 64) 0=x:=⟨_,rfl⟩
  rw[hx]at q4
  have HX:=qh hx
  have exb:bits .xor .u64 (x:Int) (IntKind.u64.wrap (2^(N % 64)))=((putBit x (N % 64) on:Nat):Int):=by
   have hx64:x<18446744073709551616:=by rw[←hx];exact getD_word HW.out _
   have h2:2^(N % 64)<18446744073709551616:=pow64 (Nat.mod_lt _ (by decide))
   have hne:¬x.testBit (N % 64)=on:=by
    have:=HB.out
    unfold bitN at this
    rw[hx]at this
    rw[this];cases on<;>decide
   rw[wrap_bit (N % 64) (Nat.mod_lt _ (by decide)),u64_xor_nat x (2^(N % 64)) hx64 h2,putBit,if_neg hne]
  obtain⟨pv,hpv⟩:∃pv,putBit x (N % 64) on=pv:=⟨_,rfl⟩
  rw[hpv]at exb
  have HPV:=qh hpv
  clear hx hpv
  clear hv hg
  have t1:(N:Int).tdiv 64=(N:Int) / 64:=Int.tdiv_eq_ediv_of_nonneg (by omega)
  have t2:(N:Int).tmod 64=(N:Int) % 64:=Int.tmod_eq_emod_of_nonneg (by omega)
  have t3:(0:Int)≤(N:Int) / 64:=by omega
  have t4:(N:Int) / 64<(l:Int):=by omega
  have t6:((N:Int) / 64).toNat=N / 64:=by omega
  have t7:((N:Int) % 64).toNat=N % 64:=by omega
  have t5:IntKind.i64.wrap ((N:Int) / 64)=(N:Int) / 64:=IntWalk.i64_in _ (by omega)
  have t8:IntKind.i64.wrap ((N:Int) % 64)=(N:Int) % 64:=IntWalk.i64_in _ (by omega)
  have t9:(0:Int)≤(N:Int) % 64:=by omega
  have n1:¬g=w5.heap.size:=hne.out
  have n2:¬w5.heap.size=g:=fun h=>hne.out h.symm
  have n3:¬g=w.heap.size+1:=by omega
  have n4:¬w.heap.size+1=g:=by omega
  go_wp2_with fail
  go_region_with (fail)
  all_goals
   go_wp2_with fail
   have pd:=(((R6.out.other (p:=⟨g,N / 64,none⟩) (by show _≠g;omega) (.int .u64 ((pv:Nat):Int))).set 0 (.int .i64 S)).set 1 (.slice (some ⟨g,0,none⟩) l C))
   have p0:=pd.cell 0 (v:=.int .i64 S) rfl
   have p1:=pd.cell 1 (v:=.slice (some ⟨g,0,none⟩) l C) rfl
   have o7:=O6.out.set HL.out (N / 64) pv
   have ep:ws.set (N / 64) pv=putN ws N on:=by unfold putN;rw[HX.out,HPV.out]
   rw[ep]at o7
   have KG:=(((Kept.refl (fun j=>j=w.heap.size+1) (w6.setCell ⟨g,N / 64,none⟩ (.int .u64 ((pv:Nat):Int)))).setG 0 (.int .i64 S)).setG 1 (.slice (some ⟨g,0,none⟩) l C)).drew
   have o8:=o7.kept KG (fun j hj=>by simp[Value.ownBlock]at hj;omega)
   have KF:=((((K.out.trans K6.out).setNew (p:=⟨g,N / 64,none⟩) (by show _≤g;omega) (.int .u64 ((pv:Nat):Int))).setNew (p:=⟨w.heap.size+1,0,none⟩) (by show _≤_+1;omega) (.int .i64 S)).setNew (p:=⟨w.heap.size+1,1,none⟩) (by show _≤_+1;omega) (.slice (some ⟨g,0,none⟩) l C)).drew
   have hfin:=(show MapAtF w (some ⟨b,off,none⟩) S (putN ws N on) (.returned (mapV S (some ⟨g,0,none⟩) l C)) _ from⟨some ⟨g,0,none⟩,C,by rw[putN_length,HL.out],o8.nats,(fun h=>by cases h),.inr (fun x hx=>by cases hx;show _≤g;omega),KF⟩)
   refine bodyPost_ret (v:=mapV S (some ⟨g,0,none⟩) l C) ?_ rfl hfin
   simp[results,Tryz.results116,go_sem,p0,p1]
 ·have hne:Hid (g≠w3.heap.size+1):=by
   show _≠_
   rcases hv with h|h
   ·have h1:some g=some w3.heap.size:=h
    cases h1;omega
   ·have h1:some g=some _:=h
    simp at h1;omega
  have G6:=qh ((MM.out.set 0 (.int .i64 S)).set 1 (.slice (some ⟨g,0,none⟩) l C))
  have KG6:=(Kept.refl (fun j=>j=w3.heap.size+1) w5).setG 0 (.int .i64 S)|>.setG 1 (.slice (some ⟨g,0,none⟩) l C)
  have O6:=qh (HO.out.kept KG6 (fun j hj=>by simp[Value.ownBlock]at hj;have:=hne.out;omega))
  have K6:=qh ((KN.out.setNew (p:=⟨w3.heap.size+1,0,none⟩) (by show _≤w3.heap.size+1;omega) (.int .i64 S)).setNew (p:=⟨w3.heap.size+1,1,none⟩) (by show _≤w3.heap.size+1;omega) (.slice (some ⟨g,0,none⟩) l C))
  clear MB0 MB1 MBf MM KN HO KG6
  generalize (w5.setCell ⟨w3.heap.size+1,0,none⟩ (.int .i64 S)).setCell ⟨w3.heap.size+1,1,none⟩ (.slice (some ⟨g,0,none⟩) l C)=w6 at G6 O6 K6 ⊢
  have q0:w6.cell? ⟨(w3.heap.size+1),0,none⟩=some (.int .i64 S):=G6.out.cell 0 rfl
  have q1:w6.cell? ⟨(w3.heap.size+1),1,none⟩=some (.slice (some ⟨g,0,none⟩) l C):=G6.out.cell 1 rfl
  have R6:=qh (G2.out.kept K6.out (fun h=>h))
  have q2:w6.cell? ⟨w.heap.size+1,0,none⟩=some (.int .i64 0):=R6.out.cell 0 rfl
  have q3:w6.cell? ⟨w.heap.size+1,1,none⟩=some (.slice none 0 0):=R6.out.cell 1 rfl
  have f2:∀i,w6.frozen? ⟨w.heap.size+1,i,none⟩=false:=R6.out.free
  have q4:w6.cell? ⟨g,N / 64,none⟩=some (.int .u64 ((ws.getD (N / 64) 0:Nat):Int)):=O6.out.cell HL.out (by rw[List.getD,List.getElem?_eq_getElem (by rw[HL.out];exact hi)];rfl)
  have f4:∀i,w6.frozen? ⟨g,i,none⟩=false:=O6.out.free HL.out
  obtain⟨x,hx⟩:∃x,ws.getD (N / 64) 0=x:=⟨_,rfl⟩
  rw[hx]at q4
  have HX:=qh hx
  have exb:bits .xor .u64 (x:Int) (IntKind.u64.wrap (2^(N % 64)))=((putBit x (N % 64) on:Nat):Int):=by
   have hx64:x<18446744073709551616:=by rw[←hx];exact getD_word HW.out _
   have h2:2^(N % 64)<18446744073709551616:=pow64 (Nat.mod_lt _ (by decide))
   have hne:¬x.testBit (N % 64)=on:=by
    have:=HB.out
    unfold bitN at this
    rw[hx]at this
    rw[this];cases on<;>decide
   rw[wrap_bit (N % 64) (Nat.mod_lt _ (by decide)),u64_xor_nat x (2^(N % 64)) hx64 h2,putBit,if_neg hne]
  obtain⟨pv,hpv⟩:∃pv,putBit x (N % 64) on=pv:=⟨_,rfl⟩
  rw[hpv]at exb
  have HPV:=qh hpv
  clear hx hpv
  clear hv hg
  have t1:(N:Int).tdiv 64=(N:Int) / 64:=Int.tdiv_eq_ediv_of_nonneg (by omega)
  have t2:(N:Int).tmod 64=(N:Int) % 64:=Int.tmod_eq_emod_of_nonneg (by omega)
  have t3:(0:Int)≤(N:Int) / 64:=by omega
  have t4:(N:Int) / 64<(l:Int):=by omega
  have t6:((N:Int) / 64).toNat=N / 64:=by omega
  have t7:((N:Int) % 64).toNat=N % 64:=by omega
  have t5:IntKind.i64.wrap ((N:Int) / 64)=(N:Int) / 64:=IntWalk.i64_in _ (by omega)
  have t8:IntKind.i64.wrap ((N:Int) % 64)=(N:Int) % 64:=IntWalk.i64_in _ (by omega)
  have t9:(0:Int)≤(N:Int) % 64:=by omega
  have n1:¬g=(w3.heap.size+1):=hne.out
  have n2:¬(w3.heap.size+1)=g:=fun h=>hne.out h.symm
  have n3:¬g=w.heap.size+1:=by omega
  have n4:¬w.heap.size+1=g:=by omega
  go_wp2_with fail
  go_region_with (fail)
  all_goals
   go_wp2_with fail
   have pd:=(((R6.out.other (p:=⟨g,N / 64,none⟩) (by show _≠g;omega) (.int .u64 ((pv:Nat):Int))).set 0 (.int .i64 S)).set 1 (.slice (some ⟨g,0,none⟩) l C))
   have p0:=pd.cell 0 (v:=.int .i64 S) rfl
   have p1:=pd.cell 1 (v:=.slice (some ⟨g,0,none⟩) l C) rfl
   have o7:=O6.out.set HL.out (N / 64) pv
   have ep:ws.set (N / 64) pv=putN ws N on:=by unfold putN;rw[HX.out,HPV.out]
   rw[ep]at o7
   have KG:=(((Kept.refl (fun j=>j=w.heap.size+1) (w6.setCell ⟨g,N / 64,none⟩ (.int .u64 ((pv:Nat):Int)))).setG 0 (.int .i64 S)).setG 1 (.slice (some ⟨g,0,none⟩) l C)).drew
   have o8:=o7.kept KG (fun j hj=>by simp[Value.ownBlock]at hj;omega)
   have KF:=((((K.out.trans K6.out).setNew (p:=⟨g,N / 64,none⟩) (by show _≤g;omega) (.int .u64 ((pv:Nat):Int))).setNew (p:=⟨w.heap.size+1,0,none⟩) (by show _≤_+1;omega) (.int .i64 S)).setNew (p:=⟨w.heap.size+1,1,none⟩) (by show _≤_+1;omega) (.slice (some ⟨g,0,none⟩) l C)).drew
   have hfin:=(show MapAtF w (some ⟨b,off,none⟩) S (putN ws N on) (.returned (mapV S (some ⟨g,0,none⟩) l C)) _ from⟨some ⟨g,0,none⟩,C,by rw[putN_length,HL.out],o8.nats,(fun h=>by cases h),.inr (fun x hx=>by cases hx;show _≤g;omega),KF⟩)
   refine bodyPost_ret (v:=mapV S (some ⟨g,0,none⟩) l C) ?_ rfl hfin
   simp[results,Tryz.results116,go_sem,p0,p1]
 ·have hne:Hid (g≠w3.heap.size):=by
   show _≠_
   rcases hv with h|h
   ·have h1:some g=some (w3.heap.size+1):=h
    cases h1;omega
   ·have h1:some g=some _:=h
    simp at h1;omega
  have G6:=qh ((MM.out.set 0 (.int .i64 S)).set 1 (.slice (some ⟨g,0,none⟩) l C))
  have KG6:=(Kept.refl (fun j=>j=w3.heap.size) w5).setG 0 (.int .i64 S)|>.setG 1 (.slice (some ⟨g,0,none⟩) l C)
  have O6:=qh (HO.out.kept KG6 (fun j hj=>by simp[Value.ownBlock]at hj;have:=hne.out;omega))
  have K6:=qh ((KN.out.setNew (p:=⟨w3.heap.size,0,none⟩) (by show _≤w3.heap.size;omega) (.int .i64 S)).setNew (p:=⟨w3.heap.size,1,none⟩) (by show _≤w3.heap.size;omega) (.slice (some ⟨g,0,none⟩) l C))
  clear MA0 MA1 MAf MM KN HO KG6
  generalize (w5.setCell ⟨w3.heap.size,0,none⟩ (.int .i64 S)).setCell ⟨w3.heap.size,1,none⟩ (.slice (some ⟨g,0,none⟩) l C)=w6 at G6 O6 K6 ⊢
  have q0:w6.cell? ⟨(w3.heap.size),0,none⟩=some (.int .i64 S):=G6.out.cell 0 rfl
  have q1:w6.cell? ⟨(w3.heap.size),1,none⟩=some (.slice (some ⟨g,0,none⟩) l C):=G6.out.cell 1 rfl
  have R6:=qh (G2.out.kept K6.out (fun h=>h))
  have q2:w6.cell? ⟨w.heap.size+1,0,none⟩=some (.int .i64 0):=R6.out.cell 0 rfl
  have q3:w6.cell? ⟨w.heap.size+1,1,none⟩=some (.slice none 0 0):=R6.out.cell 1 rfl
  have f2:∀i,w6.frozen? ⟨w.heap.size+1,i,none⟩=false:=R6.out.free
  have q4:w6.cell? ⟨g,N / 64,none⟩=some (.int .u64 ((ws.getD (N / 64) 0:Nat):Int)):=O6.out.cell HL.out (by rw[List.getD,List.getElem?_eq_getElem (by rw[HL.out];exact hi)];rfl)
  have f4:∀i,w6.frozen? ⟨g,i,none⟩=false:=O6.out.free HL.out
  obtain⟨x,hx⟩:∃x,ws.getD (N / 64) 0=x:=⟨_,rfl⟩
  rw[hx]at q4
  have HX:=qh hx
  have exb:bits .xor .u64 (x:Int) (IntKind.u64.wrap (2^(N % 64)))=((putBit x (N % 64) on:Nat):Int):=by
   have hx64:x<18446744073709551616:=by rw[←hx];exact getD_word HW.out _
   have h2:2^(N % 64)<18446744073709551616:=pow64 (Nat.mod_lt _ (by decide))
   have hne:¬x.testBit (N % 64)=on:=by
    have:=HB.out
    unfold bitN at this
    rw[hx]at this
    rw[this];cases on<;>decide
   rw[wrap_bit (N % 64) (Nat.mod_lt _ (by decide)),u64_xor_nat x (2^(N % 64)) hx64 h2,putBit,if_neg hne]
  obtain⟨pv,hpv⟩:∃pv,putBit x (N % 64) on=pv:=⟨_,rfl⟩
  rw[hpv]at exb
  have HPV:=qh hpv
  clear hx hpv
  clear hv hg
  have t1:(N:Int).tdiv 64=(N:Int) / 64:=Int.tdiv_eq_ediv_of_nonneg (by omega)
  have t2:(N:Int).tmod 64=(N:Int) % 64:=Int.tmod_eq_emod_of_nonneg (by omega)
  have t3:(0:Int)≤(N:Int) / 64:=by omega
  have t4:(N:Int) / 64<(l:Int):=by omega
  have t6:((N:Int) / 64).toNat=N / 64:=by omega
  have t7:((N:Int) % 64).toNat=N % 64:=by omega
  have t5:IntKind.i64.wrap ((N:Int) / 64)=(N:Int) / 64:=IntWalk.i64_in _ (by omega)
  have t8:IntKind.i64.wrap ((N:Int) % 64)=(N:Int) % 64:=IntWalk.i64_in _ (by omega)
  have t9:(0:Int)≤(N:Int) % 64:=by omega
  have n1:¬g=(w3.heap.size):=hne.out
  have n2:¬(w3.heap.size)=g:=fun h=>hne.out h.symm
  have n3:¬g=w.heap.size+1:=by omega
  have n4:¬w.heap.size+1=g:=by omega
  go_wp2_with fail
  go_region_with (fail)
  all_goals
   go_wp2_with fail
   have pd:=(((R6.out.other (p:=⟨g,N / 64,none⟩) (by show _≠g;omega) (.int .u64 ((pv:Nat):Int))).set 0 (.int .i64 S)).set 1 (.slice (some ⟨g,0,none⟩) l C))
   have p0:=pd.cell 0 (v:=.int .i64 S) rfl
   have p1:=pd.cell 1 (v:=.slice (some ⟨g,0,none⟩) l C) rfl
   have o7:=O6.out.set HL.out (N / 64) pv
   have ep:ws.set (N / 64) pv=putN ws N on:=by unfold putN;rw[HX.out,HPV.out]
   rw[ep]at o7
   have KG:=(((Kept.refl (fun j=>j=w.heap.size+1) (w6.setCell ⟨g,N / 64,none⟩ (.int .u64 ((pv:Nat):Int)))).setG 0 (.int .i64 S)).setG 1 (.slice (some ⟨g,0,none⟩) l C)).drew
   have o8:=o7.kept KG (fun j hj=>by simp[Value.ownBlock]at hj;omega)
   have KF:=((((K.out.trans K6.out).setNew (p:=⟨g,N / 64,none⟩) (by show _≤g;omega) (.int .u64 ((pv:Nat):Int))).setNew (p:=⟨w.heap.size+1,0,none⟩) (by show _≤_+1;omega) (.int .i64 S)).setNew (p:=⟨w.heap.size+1,1,none⟩) (by show _≤_+1;omega) (.slice (some ⟨g,0,none⟩) l C)).drew
   have hfin:=(show MapAtF w (some ⟨b,off,none⟩) S (putN ws N on) (.returned (mapV S (some ⟨g,0,none⟩) l C)) _ from⟨some ⟨g,0,none⟩,C,by rw[putN_length,HL.out],o8.nats,(fun h=>by cases h),.inr (fun x hx=>by cases hx;show _≤g;omega),KF⟩)
   refine bodyPost_ret (v:=mapV S (some ⟨g,0,none⟩) l C) ?_ rfl hfin
   simp[results,Tryz.results116,go_sem,p0,p1]
end
section
open Go.RowKit
theorem rb_setF(s:Int)(a:Option Addr)(cap:Nat)(ws:List Nat)(n:Int)(on:Bool)(w:World)(hw:Words ws)(hnil:a=none→cap=0)(hat:NatsAt w .u64 a ws):
 Calls Tryz.prog 116 #[mapV s a ws.length cap,.int .i64 n,.bool on] w (MapAtF w a s (setN s ws n on)):=by
 by_cases h:mapOK s ws=false∨n<0∨s≤n∨bitN ws n.toNat=on
 ·have e:setN s ws n on=ws:=by
   rcases h with h|h|h|h
   ·simp[setN,inB,h]
   ·have:¬0≤n:=by omega
    simp[setN,inB,this]
   ·have:¬n<s:=by omega
    simp[setN,inB,this]
   ·exact setN_same h
  rw[e]
  exact rb_set_same s a cap ws n on w hw hnil hat h
 ·have h1:mapOK s ws=true:=by
   cases hm:mapOK s ws
   ·exact absurd (.inl hm) h
   ·rfl
  have h2:0≤n:=by
   by_cases h0:0≤n
   ·exact h0
   ·exact absurd (.inr (.inl (by omega))) h
  have h3:n<s:=by
   by_cases h0:n<s
   ·exact h0
   ·exact absurd (.inr (.inr (.inl (by omega)))) h
  have h4:bitN ws n.toNat= !on:=by
   cases hb:bitN ws n.toNat<;>cases on
   ·exact absurd (.inr (.inr (.inr hb))) h
   ·rfl
   ·rfl
   ·exact absurd (.inr (.inr (.inr hb))) h
  obtain⟨N,rfl⟩:=Int.eq_ofNat_of_zero_le h2
  obtain⟨S,rfl⟩:=Int.eq_ofNat_of_zero_le (show 0≤s by omega)
  rw[Int.toNat_natCast]at h4
  have e:setN S ws N on=putN ws N on:=by
   have h3':N<S:=by omega
   simp[setN,inB,h1,h3']
  rw[e]
  rcases hat with h0|⟨b,off,rfl,hb,hc⟩
  ·subst h0
   have p2:=mapOK_len h1
   rw[Int.toNat_natCast]at p2
   simp at p2
   omega
  ·exact rb_set_put S N b off cap ws on w hw (.inr ⟨b,off,rfl,hb,hc⟩) h1 (by omega) h4
theorem rb_set(s:Int)(a:Option Addr)(cap:Nat)(ws:List Nat)(n:Int)(on:Bool)(w:World)(hw:Words ws)(hnil:a=none→cap=0)(hat:NatsAt w .u64 a ws):
 Calls Tryz.prog 116 #[mapV s a ws.length cap,.int .i64 n,.bool on] w (MapAt w s (setN s ws n on)):=(rb_setF s a cap ws n on w hw hnil hat).mono fun _ _ h=>h.at
end
section
open Go.RowKit
theorem rb_mixed_bad(all:Bool)(s t:Int)(a b:Option Addr)(ca cb:Nat)(xs ys:List Nat)(w:World)(hx64:Words xs)(hy64:Words ys)(h:mapOK s xs=false∨mapOK t ys=false)(hx:NatsAt w .u64 a xs)(hy:NatsAt w .u64 b ys):
 Calls Tryz.prog 144 #[mapV s a xs.length ca,mapV t b ys.length cb,.bool all] w fun e w'=>e=.returned (mapV 0 none 0 0)∧Same w w':=by
 have HX:=qh hx;have HY:=qh hy
 cases hmx:mapOK s xs
 ·have CA:=qh fun w' h=>rb_check4 s a ca xs w' hx64 hmx h
  clear hx hy hmx h hx64 hy64
  generalize xs.length=l1 at*
  generalize ys.length=l2 at*
  go_enter Tryz.func144,Tryz.ntmps144
  go_wp2_with fail
  refine Calls.fr3 ?_;intro W F' K' hz';have F:=qh F';have K:=qh K';have hz:=qh hz';clear F' K' hz';obtain⟨p0,f0,p1,f1,p2,f2, -⟩:=F.out.rules;have z0:=F.out.1.lt;have z1:=F.out.2.1.lt;have z2:=F.out.2.2.1.lt
  refine(CA.out _ (HX.out.same K.out)).mono ?_
  rintro e w2 ⟨rfl,k⟩
  have K':=qh (K.out.trans k);have F':=qh (F.out.same k);clear K F p0 f0 z0 p1 f1 z1 p2 f2 z2 k;have K:=K';have F:=F';clear K' F';obtain⟨p0,f0,p1,f1,p2,f2, -⟩:=F.out.rules;have z0:=F.out.1.lt;have z1:=F.out.2.1.lt;have z2:=F.out.2.2.1.lt
  go_wp2_with fail
  have p:=(F.out.2.2.1.set 0 (.int .i64 0)).set 1 (.slice none 0 0)
  refine bodyPost_ret (v:=mapV 0 none 0 0) (results_two rfl _ _ _ _ #[.int .i64 0,.slice none 0 0] _ rfl p Tryz.underlying105 rfl (by kernel_rfl)) rfl ⟨rfl,?_⟩
  have k:=K.out
  (repeat(first|exact Kept.refl _ _|with_reducible assumption|with_reducible refine Kept.alloc ?_ _|with_reducible refine Kept.drew ?_ |with_reducible refine Kept.drewN ?_ _|refine Kept.setNew ?_ (by dsimp only;omega) _|refine Kept.trans ?_ (by with_reducible assumption)))
 ·have hmy:mapOK t ys=false:=by rcases h with h|h;rw[hmx]at h;cases h;exact h
  have CA:=qh fun w' h=>rb_check0 s a ca xs w' hx64 hmx h
  have CB:=qh fun w' h=>rb_check4 t b cb ys w' hy64 hmy h
  clear hx hy hmx hmy h hx64 hy64
  generalize xs.length=l1 at*
  generalize ys.length=l2 at*
  go_enter Tryz.func144,Tryz.ntmps144
  go_wp2_with fail
  refine Calls.fr3 ?_;intro W F' K' hz';have F:=qh F';have K:=qh K';have hz:=qh hz';clear F' K' hz';obtain⟨p0,f0,p1,f1,p2,f2, -⟩:=F.out.rules;have z0:=F.out.1.lt;have z1:=F.out.2.1.lt;have z2:=F.out.2.2.1.lt
  refine(CA.out _ (HX.out.same K.out)).mono ?_
  rintro e w2 ⟨rfl,k⟩
  have K':=qh (K.out.trans k);have F':=qh (F.out.same k);clear K F p0 f0 z0 p1 f1 z1 p2 f2 z2 k;have K:=K';have F:=F';clear K' F';obtain⟨p0,f0,p1,f1,p2,f2, -⟩:=F.out.rules;have z0:=F.out.1.lt;have z1:=F.out.2.1.lt;have z2:=F.out.2.2.1.lt
  go_wp2_with fail
  refine(CB.out _ (HY.out.same K.out)).mono ?_
  rintro e w3 ⟨rfl,k⟩
  have K':=qh (K.out.trans k);have F':=qh (F.out.same k);clear K F p0 f0 z0 p1 f1 z1 p2 f2 z2 k;have K:=K';have F:=F';clear K' F';obtain⟨p0,f0,p1,f1,p2,f2, -⟩:=F.out.rules;have z0:=F.out.1.lt;have z1:=F.out.2.1.lt;have z2:=F.out.2.2.1.lt
  go_wp2_with fail
  have p:=(F.out.2.2.1.set 0 (.int .i64 0)).set 1 (.slice none 0 0)
  refine bodyPost_ret (v:=mapV 0 none 0 0) (results_two rfl _ _ _ _ #[.int .i64 0,.slice none 0 0] _ rfl p Tryz.underlying105 rfl (by kernel_rfl)) rfl ⟨rfl,?_⟩
  have k:=K.out
  (repeat(first|exact Kept.refl _ _|with_reducible assumption|with_reducible refine Kept.alloc ?_ _|with_reducible refine Kept.drew ?_ |with_reducible refine Kept.drewN ?_ _|refine Kept.setNew ?_ (by dsimp only;omega) _|refine Kept.trans ?_ (by with_reducible assumption)))
theorem rb_mixed_ok(all:Bool)(s t m:Nat)(a b:Option Addr)(ca cb:Nat)(xs ys:List Nat)(w:World)(hx64:Words xs)(hy64:Words ys)(hmx:mapOK s xs=true)(hmy:mapOK t ys=true)(hm:max (s:Int) t=m)(hm4:m≤4096)(hx:NatsAt w .u64 a xs)(hy:NatsAt w .u64 b ys):
 Calls Tryz.prog 144 #[mapV s a xs.length ca,mapV t b ys.length cb,.bool all] w (MapAt w m (mixK (combN all) xs ys ((m+63) / 64) ((m+63) / 64))):=by
 have HX:=qh hx;have HY:=qh hy
 have CA:=qh fun w' h=>rb_check0 s a ca xs w' hx64 hmx h
 have CB:=qh fun w' h=>rb_check0 t b cb ys w' hy64 hmy h
 have NW:=qh fun w'=>rb_new_ok m w' hm4
 have PA:=qh fun(k:Nat) w' h=>rb_has s a ca xs k w' hx64 h
 have PB:=qh fun(k:Nat) w' h=>rb_has t b cb ys k w' hy64 h
 have ST:=qh fun v c zs (k:Nat) on w' (h1:Words zs) (h2:zs.length=(m+63) / 64) h3 h4=>h2▸rb_set m v c zs k on w' h1 h3 h4
 have DONE:=qh fun zs (h:MixTo s t xs ys all ((m+63) / 64) m zs)=>mixTo_done hx64 hy64 hmx hmy (by omega) h
 have Z0:=qh (mixTo_zero s t xs ys all ((m+63) / 64))
 have STEP:=qh fun k zs (h:MixTo s t xs ys all ((m+63) / 64) k zs) hk=>mixTo_step h hk hm4
 have HM:=qh hm
 clear hx hy hmx hmy hx64 hy64 hm
 obtain⟨L,hL⟩:∃L,(m+63) / 64=L:=⟨_,rfl⟩
 simp only[hL]at*
 clear hL
 generalize xs.length=l1 at*
 generalize ys.length=l2 at*
 go_enter Tryz.func144,Tryz.ntmps144
 go_wp2_with fail
 refine Calls.fr3 ?_;intro W F' K' hz';have F:=qh F';have K:=qh K';have hz:=qh hz';clear F' K' hz';obtain⟨p0,f0,p1,f1,p2,f2, -⟩:=F.out.rules;have z0:=F.out.1.lt;have z1:=F.out.2.1.lt;have z2:=F.out.2.2.1.lt
 refine(CA.out _ (HX.out.same K.out)).mono ?_
 rintro e w2 ⟨rfl,k⟩
 have K':=qh (K.out.trans k);have F':=qh (F.out.same k);clear K F p0 f0 z0 p1 f1 z1 p2 f2 z2 k;have K:=K';have F:=F';clear K' F';obtain⟨p0,f0,p1,f1,p2,f2, -⟩:=F.out.rules;have z0:=F.out.1.lt;have z1:=F.out.2.1.lt;have z2:=F.out.2.2.1.lt
 go_wp2_with fail
 refine(CB.out _ (HY.out.same K.out)).mono ?_
 rintro e w3 ⟨rfl,k⟩
 have K':=qh (K.out.trans k);have F':=qh (F.out.same k);clear K F p0 f0 z0 p1 f1 z1 p2 f2 z2 k;have K:=K';have F:=F';clear K' F';obtain⟨p0,f0,p1,f1,p2,f2, -⟩:=F.out.rules;have z0:=F.out.1.lt;have z1:=F.out.2.1.lt;have z2:=F.out.2.2.1.lt
 go_wp2_with fail
 rw[HM.out]
 refine(NW.out _).mono ?_
 rintro e w4 ⟨g,rfl,ho,k⟩
 have O:=qh ho.nats
 clear ho
 have K':=qh (K.out.trans k);have F':=qh (F.out.same k);clear K F p0 f0 z0 p1 f1 z1 p2 f2 z2 k;have K:=K';have F:=F';clear K' F';obtain⟨p0,f0,p1,f1,p2,f2, -⟩:=F.out.rules;have z0:=F.out.1.lt;have z1:=F.out.2.1.lt;have z2:=F.out.2.2.1.lt
 clear NW CA CB HM
 have z4:=F.out.2.2.1.lt
 go_wp2_with fail
 go_loopw [9,10] (fun n u wr=>∃(k:Nat) (zs:List Nat) (v:Option Addr) (c:Nat) (u':Value),k≤m∧n=.int .i64 (k:Nat)∧u=u'∧
  Hid (Fr wr [(w4.heap.size,#[.int .i64 (m:Nat),.slice v L c],105),(w.heap.size,#[.int .i64 (s:Nat),.slice a l1 ca],105),(w.heap.size+1,#[.int .i64 (t:Nat),.slice b l2 cb],105),(w.heap.size+1+1,#[.int .i64 0,.slice none 0 0],105)])∧
  Hid (NatsAt wr .u64 v zs)∧Hid (v=none→c=0)∧Hid (MixTo s t xs ys all L k zs)∧Hid (Same w wr)) (fun n _ _=>m - (intOf n).toNat)
 case atStart=>exact⟨0,_,some ⟨g,0,none⟩,L,_,Nat.zero_le _,rfl,rfl,⟨Blk.new w4 _ _,F.out.same ((Kept.refl _ w4).alloc _)⟩,O.out.same ((Kept.refl _ w4).alloc _),(fun h=>by cases h),Z0.out,K.out.alloc _⟩
 case round=>
  obtain⟨k,zs,v,c,u',hk,rfl,rfl,F,A,N,M,K⟩:=hrel
  clear p0 f0 p1 f1 p2 f2 z0 z1 z2
  obtain⟨p0,f0,p1,f1,p2,f2,p3,f3, -⟩:=F.out.rules;have z0:=F.out.1.lt;have z1:=F.out.2.1.lt;have z2:=F.out.2.2.1.lt;have z3:=F.out.2.2.2.1.lt
  by_cases hlt:k<m
  ·have hlt':(k:Int)<(m:Int):=by omega
   have PAk:=qh fun w' (h:Same w w')=>PA.out k w' (HX.out.same h)
   have PBk:=qh fun w' (h:Same w w')=>PB.out k w' (HY.out.same h)
   have SM:=qh (STEP.out k zs M.out hlt)
   have W1:=qh M.out.2.1
   have W2:=qh M.out.1
   have KK:=qh (Kept.refl (fun _=>False) wr)
   obtain⟨p,hp⟩:∃p,hasM s xs k=p:=⟨_,rfl⟩
   obtain⟨q,hq⟩:∃q,hasM t ys k=q:=⟨_,rfl⟩
   rw[hp]at PAk SM;rw[hq]at PBk SM
   have STk:Hid (∀w',Same wr w'→Calls Tryz.prog 116 #[mapV m v L c,.int .i64 (k:Nat),.bool (comb all p q)] w' fun e w''=>∃v' c' zs',e=.returned (mapV m v' L c')∧NatsAt w'' .u64 v' zs'∧(v'=none→c'=0)∧MixTo s t xs ys all L (k+1) zs'∧Same w' w''):=by
    intro w' h
    refine(ST.out v c zs k (comb all p q) w' W1.out W2.out N.out (A.out.same h)).mono ?_
    rintro e w'' ⟨v',c',rfl,h1,h2,h3⟩
    exact⟨v',c',_,by rw[SM.out.1],h1,h2,SM.out,h3⟩
   clear hp hq M PA PB STEP ST DONE Z0 O W1 W2
   cases all<;>cases p<;>cases q
   all_goals
    simp only[comb,Bool.and_true,Bool.and_false,Bool.or_true,Bool.or_false,if_true,Bool.false_eq_true,if_false]at STk
    go_wp2_with(first
     |((with_reducible refine(PAk.out _ K.out).mono ?_);rintro e w5 ⟨rfl,kk⟩;have KK':=qh (KK.out.trans kk);clear KK;have KK:=KK';clear KK';have K':=qh (K.out.trans kk);have F':=qh (F.out.same kk);clear K F p0 f0 z0 p1 f1 z1 p2 f2 z2 p3 f3 z3 kk;have K:=K';have F:=F';clear K' F';obtain⟨p0,f0,p1,f1,p2,f2,p3,f3, -⟩:=F.out.rules;have z0:=F.out.1.lt;have z1:=F.out.2.1.lt;have z2:=F.out.2.2.1.lt;have z3:=F.out.2.2.2.1.lt)
     |((with_reducible refine(PBk.out _ K.out).mono ?_);rintro e w5 ⟨rfl,kk⟩;have KK':=qh (KK.out.trans kk);clear KK;have KK:=KK';clear KK';have K':=qh (K.out.trans kk);have F':=qh (F.out.same kk);clear K F p0 f0 z0 p1 f1 z1 p2 f2 z2 p3 f3 z3 kk;have K:=K';have F:=F';clear K' F';obtain⟨p0,f0,p1,f1,p2,f2,p3,f3, -⟩:=F.out.rules;have z0:=F.out.1.lt;have z1:=F.out.2.1.lt;have z2:=F.out.2.2.1.lt;have z3:=F.out.2.2.2.1.lt))
    refine(STk.out _ KK.out).mono ?_
    rintro e w6 ⟨v',c',zs',rfl,A',N',M',kk⟩
    have A':=qh A';have N':=qh N';have M':=qh M'
    have K':=qh (K.out.trans kk);have F':=qh (F.out.same kk);clear K F p0 f0 z0 p1 f1 z1 p2 f2 z2 p3 f3 z3 kk;have K:=K';have F:=F';clear K' F';obtain⟨p0,f0,p1,f1,p2,f2,p3,f3, -⟩:=F.out.rules;have z0:=F.out.1.lt;have z1:=F.out.2.1.lt;have z2:=F.out.2.2.1.lt;have z3:=F.out.2.2.2.1.lt
    go_wp2_with fail
    go_roundw
    case rel=>
     have KG:=(Kept.refl (fun j=>j=w4.heap.size) w6).setG 0 (.int .i64 (m:Nat))|>.setG 1 (.slice v' L c')
     refine⟨k+1,zs',v',c',_,by omega,by go_num,rfl,⟨(F.out.1.set 0 _).set 1 _,F.out.2.kept KG (by simp;omega)⟩,A'.out.apart F.out.1 KG (map_none _ _ (by simp)),N'.out,M'.out,?_⟩
     have k:=K.out
     (repeat(first|exact Kept.refl _ _|with_reducible assumption|with_reducible refine Kept.alloc ?_ _|with_reducible refine Kept.drew ?_ |with_reducible refine Kept.drewN ?_ _|refine Kept.setNew ?_ (by dsimp only;omega) _|refine Kept.trans ?_ (by with_reducible assumption)))
    case measure=>simp[intOf];omega
  ·have e:k=m:=by omega
   subst e
   go_wp2_with fail
   have p:=(F.out.2.2.2.1.set 0 (.int .i64 (k:Nat))).set 1 (.slice v L c)
   have KG:=(Kept.refl (fun j=>j=w.heap.size+1+1) wr).setG 0 (.int .i64 (k:Nat))|>.setG 1 (.slice v L c)
   refine bodyPost_ret (v:=mapV k v L c) (results_two rfl _ _ _ _ #[.int .i64 (k:Nat),.slice v L c] _ rfl p Tryz.underlying105 rfl (by kernel_rfl)) rfl ?_
   refine⟨v,c,by rw[mixK_len],?_,N.out,?_⟩
   ·rw[←DONE.out zs M.out]
    exact A.out.apart F.out.2.2.2.1 KG (map_none _ _ (by simp))
   ·have k:=K.out
    (repeat(first|exact Kept.refl _ _|with_reducible assumption|with_reducible refine Kept.alloc ?_ _|with_reducible refine Kept.drew ?_ |with_reducible refine Kept.drewN ?_ _|refine Kept.setNew ?_ (by dsimp only;omega) _|refine Kept.trans ?_ (by with_reducible assumption)))
theorem rb_mixed(all:Bool)(s t:Int)(a b:Option Addr)(ca cb:Nat)(xs ys:List Nat)(w:World)(hx64:Words xs)(hy64:Words ys)(hx:NatsAt w .u64 a xs)(hy:NatsAt w .u64 b ys):
 Calls Tryz.prog 144 #[mapV s a xs.length ca,mapV t b ys.length cb,.bool all] w (MapAt w (mixS s t xs ys) (mixW (combN all) s t xs ys)):=by
 cases hok:mapOK s xs&&mapOK t ys
 ·have h:mapOK s xs=false∨mapOK t ys=false:=by
   cases h1:mapOK s xs
   ·exact .inl rfl
   ·exact .inr (by rw[h1]at hok;exact hok)
  refine(rb_mixed_bad all s t a b ca cb xs ys w hx64 hy64 h hx hy).mono fun e w' r=>?_
  have e1:mixS s t xs ys=0:=by simp[mixS,hok]
  have e2:mixW (combN all) s t xs ys=[]:=by simp[mixW,hok]
  rw[e1,e2]
  exact⟨none,0,r.1,.inl rfl,fun _=>rfl,r.2⟩
 ·have h1:mapOK s xs=true:=by rw[Bool.and_eq_true]at hok;exact hok.1
  have h2:mapOK t ys=true:=by rw[Bool.and_eq_true]at hok;exact hok.2
  have p1:=mapOK_pos h1
  have p2:=mapOK_pos h2
  obtain⟨S,rfl⟩:=Int.eq_ofNat_of_zero_le p1.1
  obtain⟨T,rfl⟩:=Int.eq_ofNat_of_zero_le p2.1
  obtain⟨m,hm⟩:=Int.eq_ofNat_of_zero_le (show 0≤max (S:Int) T by omega)
  have hm':max (S:Int) (T:Int)=(m:Int):=hm
  have e1:mixS S T xs ys=m:=by simp only[mixS,hok,if_true];exact hm'
  have e2:mixW (combN all) S T xs ys=mixK (combN all) xs ys ((m+63) / 64) ((m+63) / 64):=by simp only[mixW,hok,if_true,hm',Int.toNat_natCast]
  rw[e1,e2]
  exact rb_mixed_ok all S T m a b ca cb xs ys w hx64 hy64 h1 h2 hm' (by omega) hx hy
theorem rb_either(s t:Int)(a b:Option Addr)(ca cb:Nat)(xs ys:List Nat)(w:World)(hx64:Words xs)(hy64:Words ys)(hx:NatsAt w .u64 a xs)(hy:NatsAt w .u64 b ys):
 Calls Tryz.prog 102 #[mapV s a xs.length ca,mapV t b ys.length cb] w (MapAt w (mixS s t xs ys) (mixW (· ||| ·) s t xs ys)):=by
 have HX:=qh hx;have HY:=qh hy
 have M:=qh fun w' h1 h2=>rb_mixed false s t a b ca cb xs ys w' hx64 hy64 h1 h2
 rw[combN_false]at M
 clear hx hy hx64 hy64
 generalize mixS s t xs ys=m at*
 generalize mixW (· ||| ·) s t xs ys=zs at*
 generalize xs.length=l1 at*
 generalize ys.length=l2 at*
 go_enter Tryz.func102,Tryz.ntmps102
 go_wp2_with fail
 refine Calls.fr3 ?_;intro W F' K' hz';have F:=qh F';have K:=qh K';have hz:=qh hz';clear F' K' hz';obtain⟨p0,f0,p1,f1,p2,f2, -⟩:=F.out.rules;have z0:=F.out.1.lt;have z1:=F.out.2.1.lt;have z2:=F.out.2.2.1.lt
 refine(M.out _ (HX.out.same K.out) (HY.out.same K.out)).mono ?_
 rintro e w2 ⟨v,c,rfl,A,N,k⟩
 have A:=qh A;have N:=qh N
 have K':=qh (K.out.trans k);have F':=qh (F.out.same k);clear K F p0 f0 z0 p1 f1 z1 p2 f2 z2 k;have K:=K';have F:=F';clear K' F';obtain⟨p0,f0,p1,f1,p2,f2, -⟩:=F.out.rules;have z0:=F.out.1.lt;have z1:=F.out.2.1.lt;have z2:=F.out.2.2.1.lt
 go_wp2_with fail
 have p:=(F.out.2.2.1.set 0 (.int .i64 m)).set 1 (.slice v zs.length c)
 have KG:=(Kept.refl (fun j=>j=w.heap.size+1+1) w2).setG 0 (.int .i64 m)|>.setG 1 (.slice v zs.length c)
 refine bodyPost_ret (v:=mapV m v zs.length c) (results_two rfl _ _ _ _ #[.int .i64 m,.slice v zs.length c] _ rfl p Tryz.underlying105 rfl (by kernel_rfl)) rfl ?_
 refine⟨v,c,rfl,A.out.apart F.out.2.2.1 KG (map_none _ _ (by simp)),N.out,?_⟩
 have k:=K.out
 (repeat(first|exact Kept.refl _ _|with_reducible assumption|with_reducible refine Kept.alloc ?_ _|with_reducible refine Kept.drew ?_ |with_reducible refine Kept.drewN ?_ _|refine Kept.setNew ?_ (by dsimp only;omega) _|refine Kept.trans ?_ (by with_reducible assumption)))
end
end Go.Proofs.YtmiglhlbhbfodaaGreatDoor
