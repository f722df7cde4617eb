/- GAw7: Aw7P, Aw7. -/
import Derived.Test.YtmiglhlbhbfodaaGreatDoorGStB
set_option maxHeartbeats 3200000
set_option maxRecDepth 100000
namespace Go.Proofs.YtmiglhlbhbfodaaGreatDoor
section
open Go.RowKit
def aD0:Dsk:=newD 48
def aS1:Sto:=(fmtS aD0 8).2.1.getD (sto0 aD0)
def aS2:Sto:=aS1.alloc.1
def aS3:Sto:=(aS2.wr 0 [97,98]).1
def aS4:Sto:=(aS3.commit [114]).1
def aS5:Sto:=aS4.alloc.1
def aD6:Dsk:=powerD aS5.D []
def aS7:Sto:=(openS aD6).getD (sto0 aD0)
def aS8:Sto:=(aS7.rd 0).1
theorem a7_1:fmtS aD0 8=((fmtS aD0 8).1,some aS1,0):=by kernel_rfl
theorem a7_2:aS1.alloc.2.1=0∧aS1.alloc.2.2=0:=⟨by kernel_rfl,by kernel_rfl⟩
theorem a7_3:(aS2.wr 0 [97,98]).2=0:=by kernel_rfl
theorem a7_4:(aS3.commit [114]).2=0:=by kernel_rfl
theorem a7_5:aS4.alloc.2.1=1∧aS4.alloc.2.2=0:=⟨by kernel_rfl,by kernel_rfl⟩
theorem a7_6a:aS5.hasE 0=0:=by kernel_rfl
theorem a7_6b:hasM (aS5.r.size:Nat) aS5.r.words 0=true:=by kernel_rfl
theorem a7_6:aS5.wr 0 []=(aS5,11):=by unfold Sto.wr;rw[if_neg (fun q=>q a7_6a),if_pos a7_6b]
theorem some_of{α:Type}(o:Option α)(d:α)(h:o.isSome=true):o=some (o.getD d):=by cases o;cases h;rfl
theorem a7_7a:(openS aD6).isSome=true:=by kernel_rfl
theorem a7_7:openS aD6=some aS7∧aD6.off=false:=⟨some_of _ _ a7_7a,by kernel_rfl⟩
set_option maxRecDepth 1000000 in
theorem a7_8:(aS7.rd 0).2.1=[97,98]∧(aS7.rd 0).2.2=0:=⟨by kernel_rfl,by kernel_rfl⟩
theorem a7_9:aS8.r.body=[114]∧aS8.r.gen=2∧aS8.roomS=7∧aS8.r.ring=8∧aS8.nsize=8∧aS8.nwords=[1]:=⟨by kernel_rfl,by kernel_rfl,by kernel_rfl,by kernel_rfl,by kernel_rfl,by kernel_rfl⟩
theorem a7_10:rankN 8 [1] 8=1:=by kernel_rfl
theorem a7_f1:aS1.Fit:=fit_of (by kernel_rfl)
theorem a7_f2:aS2.Fit:=a7_f1.alloc
theorem a7_f3:aS3.Fit:=a7_f2.wr _ _
theorem a7_f4:aS4.Fit:=a7_f3.commit _
theorem a7_f7:aS7.Fit:=fit_of (by kernel_rfl)
theorem a7_f8:aS8.Fit:=a7_f7.rd _
end
section
open Go.RowKit Go.Sort Go.Shelf
theorem TabOK.kept{w w':World}{fp:Nat→Prop}(h:TabOK w)(k:Kept fp w w')(hn:¬fp 0):TabOK w':=fun i hi=>(k.cell (p:=⟨0,i,none⟩) (World.block_lt_of_cell? w ⟨0,0,none⟩ (h 0 (by decide))) hn).trans (h i hi)
theorem TabOK.lt{w:World}(h:TabOK w):0<w.heap.size:=World.block_lt_of_cell? w ⟨0,0,none⟩ (h 0 (by decide))
theorem konst_run(w:World)(C:Array Value)(n c:Nat):(convert 32 32 (.slice (some ⟨w.heap.size,0,none⟩) n c)).run Tryz.prog (w.alloc (.cells C 5))=.ok (.slice (some ⟨w.heap.size,0,none⟩) n c) (w.alloc (.cells C 5 (C.size,C.size+1))):=
 Lib.run_convert_bytes_const w 32 5 C n c Tryz.underlying32 Tryz.underlying5
theorem konst_at(w:World)(xs:List Nat)(C:Array Value)(hC:C.toList=xs.map (fun x=>.int .u8 ((x:Nat):Int)))(m:Nat×Nat):NatsAt (w.alloc (.cells C 5 m)) .u8 (some ⟨w.heap.size,0,none⟩) xs:=by
 refine .inr ⟨w.heap.size,0,rfl,by simp,fun i y hy=>?_⟩
 have hb:(w.alloc (.cells C 5 m)).heap[w.heap.size]? =some (.cells C 5 m):=heap_alloc_new w _
 simp only[World.cell?,hb,Nat.zero_add]
 have:C[i]? =some (.int .u8 ((y:Nat):Int)):=by
  rw[←Array.getElem?_toList,hC,List.getElem?_map,hy]
  rfl
 exact this
theorem bts_lit{l:List Nat}(h:l.all (fun x=>decide (x<256))=true):Bts l:=fun x hx=>by simpa using List.all_eq_true.1 h x hx
theorem StoIn.ltF{w:World}{p d bs m:Nat}{S:Sto}(h:StoIn w p d bs m S):∀g,FS p d bs m g→g<w.heap.size:=by
 obtain⟨cap,wa,wc,ba,bc,na,nc,h1,h2, -⟩:=h
 exact fun g hg=>hg.elim (fun q=>q▸h1.lt) (fun q=>h2.lt3 g q)
theorem StoIn.disk{w:World}{p d bs m:Nat}{S:Sto}(h:StoIn w p d bs m S):∃cap,DiskIn w d bs cap m S.D:=by
 obtain⟨cap,wa,wc,ba,bc,na,nc,h1,h2, -⟩:=h
 exact⟨cap,h2⟩
theorem Kept.newer{fp:Nat→Prop}{a b c:World}(h:Same a b)(k:Kept fp b c)(hf:∀g,fp g→a.heap.size≤g):Same a c:=h.step k (fun i hi q=>by have:=hf i q;omega)
theorem aw07(w:World)(hT:TabOK w):Calls Tryz.prog 7 #[] w fun e w'=>e=.returned (.bool true)∧Same w w':=by
 have TB:=qh hT
 clear hT
 go_enter Tryz.func7,Tryz.ntmps7
 go_wp2_with fail
 refine(sd_new 48 w).mono ?_
 rintro e w1 ⟨d,bs,cap,m,rfl,h1,hd,hbs,hm,k1⟩
 have H1:Hid (DiskIn w1 d bs cap m aD0):=h1
 have K1:=qh k1
 have DB:=qh (show∀g,dod d bs m g→w.heap.size≤g from fun g hg=>by rcases hg with q|q|q<;>omega)
 have FM:=qh (st_Format H1.out 8)
 rw[a7_1]at FM
 unfold FmtPost at FM
 clear h1 k1
 go_wp2_with fail
 with_reducible refine FM.out.mono ?_
 rintro e w2 ⟨⟨p,rfl,s2,hp⟩,k2⟩
 have SI:=qh s2
 have hp1:w.heap.size≤p:=Nat.le_trans K1.out.size hp
 have FB:=qh (show∀g,FS p d bs m g→w.heap.size≤g from fun g hg=>hg.elim (fun q=>by omega) (DB.out g))
 have K:=qh (K1.out.newer k2 DB.out)
 clear s2 k2 FM H1 K1
 have TK:=qh (fun W (k:Same w W)=>TB.out.same k)
 have AL:=qh (st_Alloc SI.out a7_f1 (TK.out _ K.out))
 rw[a7_2.1,a7_2.2]at AL
 unfold StPost at AL
 go_wp2_with fail
 with_reducible refine AL.out.mono ?_
 rintro e w3 ⟨rfl,s3,k3⟩
 have SI3:Hid (StoIn w3 p d bs m aS2):=s3
 have K3:=qh (K.out.newer k3 (fun g hg=>FB.out g (.inl hg)))
 clear s3 k3 AL SI K
 have C1:=qh (konst_run w3 #[.int .u8 97,.int .u8 98] 2 2)
 have N1:=qh (konst_at w3 [97,98] #[.int .u8 97,.int .u8 98] rfl (2,2+1))
 obtain⟨y,hy⟩:∃y,w3.heap.size=y:=⟨_,rfl⟩
 have c1:=C1.out
 clear C1 hy y
 go_wp2_with fail
 have k4:Same w3 (w3.alloc (.cells #[.int .u8 97,.int .u8 98] 5 (2,3))):=(Kept.refl _ _).alloc _
 have WR:=qh (st_Write (SI3.out.same k4) 0 (some ⟨w3.heap.size,0,none⟩) 2 2 [97,98] rfl (bts_lit (by decide)) (by decide) N1.out)
 rw[a7_3]at WR
 unfold StPost at WR
 have K4:=qh (K3.out.trans k4)
 clear c1 N1 k4 K3
 with_reducible refine WR.out.mono ?_
 rintro e w5 ⟨rfl,s5,k5⟩
 have SI5:Hid (StoIn w5 p d bs m aS3):=s5
 have K5:=qh (K4.out.newer k5 FB.out)
 clear s5 k5 WR SI3 K4
 have c1:=konst_run w5 #[.int .u8 114] 1 1
 have N1:=qh (konst_at w5 [114] #[.int .u8 114] rfl (1,1+1))
 go_wp2_with fail
 have k6:Same w5 (w5.alloc (.cells #[.int .u8 114] 5 (1,2))):=(Kept.refl _ _).alloc _
 have CM:=qh (st_Commit (SI5.out.same k6) a7_f3 (some ⟨w5.heap.size,0,none⟩) 1 1 [114] rfl (bts_lit (by decide)) (by decide) N1.out (.inr fun x hx q=>by cases hx;have:=SI5.out.ltF _ q;dsimp only at this;omega))
 rw[a7_4]at CM
 unfold StPost at CM
 have K6:=qh (K5.out.trans k6)
 clear c1 N1 k6 K5
 with_reducible refine CM.out.mono ?_
 rintro e w7 ⟨rfl,s7,k7⟩
 have SI7:Hid (StoIn w7 p d bs m aS4):=s7
 have K7:=qh (K6.out.newer k7 FB.out)
 clear s7 k7 CM SI5 K6
 have AL:=qh (st_Alloc SI7.out a7_f4 (TK.out _ K7.out))
 rw[a7_5.1,a7_5.2]at AL
 unfold StPost at AL
 go_wp2_with fail
 with_reducible refine AL.out.mono ?_
 rintro e w8 ⟨rfl,s8,k8⟩
 have SI8:Hid (StoIn w8 p d bs m aS5):=s8
 have K8:=qh (K7.out.newer k8 (fun g hg=>FB.out g (.inl hg)))
 clear s8 k8 AL SI7 K7
 have WR:=qh (st_Write SI8.out 0 none 0 0 [] rfl bts_nil (by decide) (.inl rfl))
 rw[a7_6]at WR
 unfold StPost at WR
 go_wp2_with fail
 with_reducible refine WR.out.mono ?_
 rintro e w9 ⟨rfl,s9,k9⟩
 obtain⟨cap9,hd9⟩:=s9.disk
 have H9:Hid (DiskIn w9 d bs cap9 m aS5.D):=hd9
 have K9:=qh (K8.out.newer k9 FB.out)
 clear s9 k9 WR SI8 K8 hd9
 have PW:=qh (sd_power H9.out none 0 0 [] rfl (Nat.le_refl _) (by intro x hx;cases hx) (.inl rfl))
 go_wp2_with fail
 with_reducible refine PW.out.mono ?_
 rintro e w10 ⟨rfl,h10,k10⟩
 have H10:Hid (DiskIn w10 d bs cap9 m aD6):=h10
 have K10:=qh (K9.out.newer k10 DB.out)
 clear PW h10 k10 H9 K9
 have OP:=qh (st_open H10.out)
 rw[a7_7.1,a7_7.2]at OP
 unfold OpenPost at OP
 go_wp2_with fail
 with_reducible refine OP.out.mono ?_
 rintro e w11 ⟨hq,k11⟩
 rw[if_neg (by decide)]at hq
 obtain⟨p2,rfl,s11,hp2⟩:=hq
 have SI11:=qh s11
 have hp2':w.heap.size≤p2:=Nat.le_trans K10.out.size hp2
 have K11:=qh (K10.out.trans k11)
 clear OP s11 k11 H10 K10 hp2
 have RD:=qh (st_Read SI11.out 0)
 rw[a7_8.1,a7_8.2]at RD
 unfold RdPost at RD
 go_wp2_with fail
 with_reducible refine RD.out.mono ?_
 rintro e w12 ⟨a12,c12,rfl,n12,z12,s12,k12⟩
 have SI12:Hid (StoIn w12 p2 d bs m aS8):=s12
 have K12:=qh (K11.out.newer k12 (fun g hg=>by omega))
 have N12:=qh n12
 clear s12 k12 RD SI11 K11 n12 z12
 have LG:=qh (st_Log SI12.out)
 rw[a7_9.2.2.2.1]at LG
 go_wp2_with fail
 with_reducible refine LG.out.mono ?_
 rintro e w13 ⟨rfl,k13⟩
 have SI13:=qh (SI12.out.same k13)
 have K13:=qh (K12.out.trans k13)
 have hcv:=conv_str a12 2 c12 [97,98] w13 rfl (N12.out.same k13)
 rw[show strN [97,98]={data:=#[97,98]}from by decide]at hcv
 clear LG k13 SI12 K12 N12
 have BO:=qh (st_Body SI13.out)
 rw[a7_9.1]at BO
 go_wp2_with fail
 with_reducible refine BO.out.mono ?_
 rintro e w14 ⟨⟨v14,rfl,o14⟩,k14⟩
 obtain⟨a14,l14,c14,rfl,hl14, -,n14, -⟩:=o14.rd
 obtain rfl:l14=1:=hl14.out
 have SI14:=qh (SI13.out.same k14)
 have K14:=qh (K13.out.trans k14)
 clear hcv
 have hcv:=conv_str a14 1 c14 [114] w14 rfl n14.out
 rw[show strN [114]={data:=#[114]}from by decide]at hcv
 clear BO k14 SI13 K13 n14 o14 hl14
 have GE:=qh (st_Gen SI14.out)
 rw[a7_9.2.1]at GE
 have RM:=qh (st_Room SI14.out a7_f8)
 rw[a7_9.2.2.1]at RM
 go_wp2_with fail
 with_reducible refine GE.out.mono ?_
 rintro e w15 ⟨rfl,rfl⟩
 clear GE hcv
 go_wp2_with fail
 with_reducible refine RM.out.mono ?_
 rintro e w16 ⟨rfl,k16⟩
 have SI16:=qh (SI14.out.same k16)
 have K16:=qh (K14.out.trans k16)
 clear RM k16 SI14 K14
 have US:=qh (st_Used SI16.out a7_f8)
 rw[a7_9.2.2.2.2.1,a7_9.2.2.2.2.2]at US
 unfold UsedPost mapV at US
 go_wp2_with fail
 with_reducible refine US.out.mono ?_
 rintro e w17 ⟨g17,c17,rfl,o17,k17⟩
 have K17:=qh (K16.out.trans k17)
 have RK:=qh (bm_rank 8 (some ⟨g17,0,none⟩) c17 [1] 8 w17 (fun x hx=>by simp at hx;omega) o17.len.2.1 o17.nats)
 rw[a7_10]at RK
 unfold mapV at RK
 simp only[List.length_cons,List.length_nil,Nat.zero_add]at RK
 clear US k17 o17 K16 SI16
 go_wp2_with fail
 with_reducible refine RK.out.mono ?_
 rintro e w18 ⟨rfl,k18⟩
 have K18:=qh (K17.out.trans k18)
 clear RK k18 K17
 go_wp2_with fail
 go_ret
 exact⟨rfl,K18.out⟩
end
end Go.Proofs.YtmiglhlbhbfodaaGreatDoor
