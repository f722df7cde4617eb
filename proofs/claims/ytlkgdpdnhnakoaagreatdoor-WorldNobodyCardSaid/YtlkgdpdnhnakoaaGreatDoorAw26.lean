/- Aw26: law 26's awake, run by the kernel, in three parts: what is there when the db is opened again, and when the disk is looked at, is written out. -/
import Derived.Test.YtlkgdpdnhnakoaaGreatDoorGEc
namespace Go.Proofs.YtlkgdpdnhnakoaaGreatDoor
namespace Ev
def bts (l : List Nat) : List Ce := l.map fun n => .I .u8 (.ofNat n)
noncomputable def entM : List EnyF := ⟨144, clsO⟩ :: ⟨145, clmO⟩ :: entP
theorem entM_ok (vals : Nat → Nat × Nat) : ∀ e ∈ entM, YOkV vals e.f e.g := by
  intro e he
  rcases List.mem_cons.1 he with rfl | he
  · exact fun hT _ _ _ _ q _ _ _ s hr => cls_ok hT q s hr
  rcases List.mem_cons.1 he with rfl | he
  · exact fun hT _ _ _ _ q _ _ _ s hr => clm_ok hT q s hr
  · exact entP_ok vals e he
/-- The disk, as it is when the db is opened again. -/
noncomputable def litA : List (Nat × Lx) := [(66, .cells none [(0, [.L (some (64, 0)) 188 (.k 188), .M (some 65), .B false, .I .i64 (17), .I .i64 (-1), .B false])] 6 none),
  (64, .cells (some (.I .u8 0)) [(0, bts (List.replicate 7 0 ++ [1, 0, 0, 12, 1, 20, 1, 40] ++ List.replicate 240 0 ++ [1])), (256, bts (List.replicate 7 0 ++ [1, 1] ++ List.replicate 246 0 ++ [1])), (512, bts (List.replicate 7 0 ++ [1, 2] ++ List.replicate 246 0 ++ [1])), (768, bts (List.replicate 7 0 ++ [1, 3] ++ List.replicate 246 0 ++ [1])), (1024, bts (List.replicate 7 0 ++ [2, 0, 0, 18, 1, 20, 1, 40] ++ List.replicate 7 0 ++ [1, 0, 0, 1, 2] ++ List.replicate 228 0 ++ [2])), (1280, bts (List.replicate 7 0 ++ [2, 1] ++ List.replicate 246 0 ++ [2])), (1536, bts (List.replicate 7 0 ++ [2, 2] ++ List.replicate 246 0 ++ [2])), (1792, bts (List.replicate 7 0 ++ [2, 3] ++ List.replicate 246 0 ++ [2])), (2048, bts (List.replicate 6 0 ++ [2, 0, 20, 4, 0, 0, 1, 1, 9, 1, 0, 107, 0, 1, 0, 118, 0, 1, 4, 2, 0, 1, 2] ++ List.replicate 225 0 ++ [2, 0])), (7168, bts ([108, 240, 55, 85, 0, 2] ++ List.replicate 250 0))] 48128 none),
  (65, .map [] 13)]
/-- The db that was opened, and its disk. -/
noncomputable def litB : List (Nat × Lx) := [(1326, .cells none [(0, [.P (some (1198, 0)), .P (some (1229, 0)), .P (some (1294, 0)), .P (some (1325, 0)), .I .i64 (1), .L none 0 (.k 0), .L none 0 (.k 0), .B false])] 8 none),
  (1198, .cells none [(0, [.P (some (66, 0)), .I .i64 (3), .I .i64 (0), .I .i64 (20), .I .i64 (40), .L (some (2087, 0)) 1 (.e 0), .L (some (2190, 0)) 9 (.e 0), .I .i64 (40), .L (some (2087, 0)) 1 (.e 0), .B false])] 10 none),
  (66, .cells none [(0, [.L (some (64, 0)) 188 (.k 188), .M (some 65), .B false, .I .i64 (27), .I .i64 (-1), .B false])] 6 none),
  (64, .cells (some (.I .u8 0)) [(0, bts (List.replicate 7 0 ++ [3, 0, 0, 21, 1, 20, 1, 40] ++ List.replicate 7 0 ++ [2, 1, 1, 1, 2, 1, 3, 1, 1] ++ List.replicate 224 0 ++ [3])), (256, bts (List.replicate 7 0 ++ [3, 1] ++ List.replicate 246 0 ++ [3])), (512, bts (List.replicate 7 0 ++ [3, 2] ++ List.replicate 246 0 ++ [3])), (768, bts (List.replicate 7 0 ++ [3, 3] ++ List.replicate 246 0 ++ [3])), (1024, bts (List.replicate 7 0 ++ [2, 0, 0, 18, 1, 20, 1, 40] ++ List.replicate 7 0 ++ [1, 0, 0, 1, 2] ++ List.replicate 228 0 ++ [2])), (1280, bts (List.replicate 7 0 ++ [2, 1] ++ List.replicate 246 0 ++ [2])), (1536, bts (List.replicate 7 0 ++ [2, 2] ++ List.replicate 246 0 ++ [2])), (1792, bts (List.replicate 7 0 ++ [2, 3] ++ List.replicate 246 0 ++ [2])), (2048, bts (List.replicate 6 0 ++ [2, 0, 20, 4, 0, 0, 1, 1, 9, 1, 0, 107, 0, 1, 0, 118, 0, 1, 4, 2, 0, 1, 2] ++ List.replicate 225 0 ++ [2, 0])), (7168, bts ([108, 240, 55, 85, 0, 2] ++ List.replicate 250 0)), (8192, bts ([253, 217, 170, 115, 0, 17, 0, 0, 0, 1, 1, 1, 12, 107, 0, 1, 1, 1, 0, 1, 2, 0, 118, 0, 1] ++ List.replicate 231 0))] 48128 none),
  (65, .map [] 21),
  (2087, .cells none [(0, [.I .u64 (2)])] 1 (some 1)),
  (2190, .cells none [(0, [.I .u8 (1), .I .u8 (1), .I .u8 (1), .I .u8 (2), .I .u8 (1), .I .u8 (3), .I .u8 (1), .I .u8 (1), .I .u8 (0)])] 9 (some 1)),
  (1229, .cells none [(0, [.P (some (1198, 0)), .P (some (1230, 0)), .I .i64 (4), .L (some (1698, 0)) 1 (.e 0), .M (some 1228), .I .i64 (1), .B false])] 7 none),
  (1230, .cells none [(0, [.I .i64 (1), .P (some (1280, 0))])] 2 none),
  (1280, .cells none [(0, [.I .i64 (0), .L (some (1737, 0)) 1 (.e 0), .L none 0 (.k 0), .L none 0 (.k 0), .L none 0 (.k 0), .L none 0 (.k 0), .B false, .I .i64 (1)])] 8 none),
  (1737, .cells none [(0, [.S [107], .L (some (1734, 0)) 1 (.e 0)])] 2 (some 2)),
  (1734, .cells none [(0, [.I .i64 (0), .I .i64 (2), .B false, .S [118]])] 4 (some 4)),
  (1698, .cells none [(0, [.I .i64 (1), .I .i64 (0), .B false])] 3 (some 3)),
  (1228, .map [(.I .i64 (1), .C (.P (some (1230, 0))), 0)] 1),
  (1294, .cells none [(0, [.P (some (66, 0)), .I .i64 (8), .I .i64 (20), .I .i64 (3), .I .i64 (0), .L none 0 (.k 0), .L none 0 (.k 0), .B false, .B false])] 9 none),
  (1325, .cells none [(0, [.I .i64 (2), .I .u32 (1), .I .i32 (0), .I .u32 (0), .I .u32 (1)])] 5 none)]
/-- The disk that is looked at. -/
noncomputable def litC : List (Nat × Lx) := [(2597, .cells none [(0, [.L (some (2598, 0)) 188 (.e 0), .M (some 2599), .B false, .I .i64 (27), .I .i64 (-1), .B false])] 6 none),
  (2598, .cells (some (.I .u8 0)) [(0, bts (List.replicate 7 0 ++ [3, 0, 0, 21, 1, 20, 1, 40] ++ List.replicate 7 0 ++ [2, 1, 1, 1, 2, 1, 3, 1, 1] ++ List.replicate 224 0 ++ [3])), (256, bts (List.replicate 7 0 ++ [3, 1] ++ List.replicate 246 0 ++ [3])), (512, bts (List.replicate 7 0 ++ [3, 2] ++ List.replicate 246 0 ++ [3])), (768, bts (List.replicate 7 0 ++ [3, 3] ++ List.replicate 246 0 ++ [3])), (1024, bts (List.replicate 7 0 ++ [2, 0, 0, 18, 1, 20, 1, 40] ++ List.replicate 7 0 ++ [1, 0, 0, 1, 2] ++ List.replicate 228 0 ++ [2])), (1280, bts (List.replicate 7 0 ++ [2, 1] ++ List.replicate 246 0 ++ [2])), (1536, bts (List.replicate 7 0 ++ [2, 2] ++ List.replicate 246 0 ++ [2])), (1792, bts (List.replicate 7 0 ++ [2, 3] ++ List.replicate 246 0 ++ [2])), (2048, bts (List.replicate 6 0 ++ [2, 0, 20, 4, 0, 0, 1, 1, 9, 1, 0, 107, 0, 1, 0, 118, 0, 1, 4, 2, 0, 1, 2] ++ List.replicate 225 0 ++ [2, 0])), (7168, bts ([108, 240, 55, 85, 0, 2] ++ List.replicate 250 0)), (8192, bts ([253, 217, 170, 115, 0, 17, 0, 0, 0, 1, 1, 1, 12, 107, 0, 1, 1, 1, 0, 1, 2, 0, 118, 0, 1] ++ List.replicate 231 0))] 48128 (some 256)),
  (2599, .map [] 21)]
noncomputable def opA : List AV := [.V (.C (.P (some (66, 0)))), .V (.C (.I .i64 4))]
noncomputable def opZ : AV := .U [.C (.P (some (1326, 0))), .C (.I .i64 0)]
noncomputable def soA : List AV := [.V (.C (.P (some (2597, 0))))]
noncomputable def soZ : AV := .V (.C (.I .i64 0))
theorem open26_ran : mxRun opZ litB (nat_lit 2500) ((clK (iyV entM) (nat_lit 300)).call 9 opA (litJ litA (nat_lit 1000))) = true := by kernel_rfl
theorem sound26_ran : mxRun soZ [] (nat_lit 6000) ((clK (iyV entM) (nat_lit 300)).call 69 soA (litJ litC (nat_lit 3000))) = true := by kernel_rfl
noncomputable def entQ : List EnyF := ⟨9, mxO litA (nat_lit 1000) opA opZ litB (nat_lit 2500)⟩ :: ⟨69, mxO litC (nat_lit 3000) soA soZ [] (nat_lit 6000)⟩ :: entM
theorem entQ_ok (vals : Nat → Nat × Nat) : ∀ e ∈ entQ, YOkV vals e.f e.g := by
  intro e he
  rcases List.mem_cons.1 he with rfl | he
  · exact mx_ok (entM_ok vals) open26_ran
  rcases List.mem_cons.1 he with rfl | he
  · exact mx_ok (entM_ok vals) sound26_ran
  · exact entM_ok vals e he
theorem aw26_ran : ranOk ((clK (iyV entQ) (nat_lit 300)).call 27 [] (h0 numG tabG 0)) = true := by kernel_rfl
end Ev
theorem aw26 (w : World) (hT : TabOK w) : Calls Tryz.prog 27 #[] w fun e w' => e = .returned (.bool true) ∧ Same w w' := Ev.ranP (Ev.entQ_ok _) Ev.aw26_ran w hT
end Go.Proofs.YtlkgdpdnhnakoaaGreatDoor
