/- Aw24: law 24's awake, run by the kernel, in two parts: what is there when the db is opened again is written out, and what is there behind that. -/
import Derived.Test.YtlkgdpdnhnakoaaGreatDoorEvLt
namespace Go.Proofs.YtlkgdpdnhnakoaaGreatDoor
namespace Ev
def bts (l : List Nat) : List Ce := l.map fun n => .I .u8 (.ofNat n)
/-- The disk, as it is when the db is opened again. -/
noncomputable def litA : List (Nat × Lt) := [(66, .cells [(0, [.L (some (64, 0)) 188 (.k 188), .M (some 65), .B false, .I .i64 (17), .I .i64 (-1), .B false])] 6 none),
  (64, .cells [(0, bts (List.replicate 7 0 ++ [1, 0, 0, 12, 1, 20, 1, 40] ++ List.replicate 240 0 ++ [1])), (256, bts (List.replicate 7 0 ++ [1, 1] ++ List.replicate 246 0 ++ [1])), (512, bts (List.replicate 7 0 ++ [1, 2] ++ List.replicate 246 0 ++ [1])), (768, bts (List.replicate 7 0 ++ [1, 3] ++ List.replicate 246 0 ++ [1])), (1024, bts (List.replicate 7 0 ++ [2, 0, 0, 18, 1, 20, 1, 40] ++ List.replicate 7 0 ++ [1, 0, 0, 1, 2] ++ List.replicate 228 0 ++ [2])), (1280, bts (List.replicate 7 0 ++ [2, 1] ++ List.replicate 246 0 ++ [2])), (1536, bts (List.replicate 7 0 ++ [2, 2] ++ List.replicate 246 0 ++ [2])), (1792, bts (List.replicate 7 0 ++ [2, 3] ++ List.replicate 246 0 ++ [2])), (2048, bts (List.replicate 6 0 ++ [2, 0, 20, 4, 0, 0, 1, 1, 9, 1, 0, 107, 0, 1, 0, 118, 0, 1, 4, 2, 0, 1, 3] ++ List.replicate 225 0 ++ [2, 0])), (2304, bts (List.replicate 256 0)), (2560, bts (List.replicate 256 0)), (2816, bts (List.replicate 256 0)), (3072, bts (List.replicate 256 0)), (3328, bts (List.replicate 256 0)), (3584, bts (List.replicate 256 0)), (3840, bts (List.replicate 256 0)), (4096, bts (List.replicate 256 0)), (4352, bts (List.replicate 256 0)), (4608, bts (List.replicate 256 0)), (4864, bts (List.replicate 256 0)), (5120, bts (List.replicate 256 0)), (5376, bts (List.replicate 256 0)), (5632, bts (List.replicate 256 0)), (5888, bts (List.replicate 256 0)), (6144, bts (List.replicate 256 0)), (6400, bts (List.replicate 256 0)), (6656, bts (List.replicate 256 0)), (6912, bts (List.replicate 256 0)), (7168, bts ([108, 240, 55, 85, 0, 2] ++ List.replicate 250 0)), (7424, bts (List.replicate 256 0)), (7680, bts (List.replicate 256 0)), (7936, bts (List.replicate 256 0))] 48128 none),
  (65, .map [] 13)]
/-- The db that was opened. -/
noncomputable def litB : List (Nat × Lt) := [(1826, .cells [(0, [.P (some (1698, 0)), .P (some (1729, 0)), .P (some (1794, 0)), .P (some (1825, 0)), .I .i64 (1), .L none 0 (.k 0), .L none 0 (.k 0), .B false])] 8 none),
  (1698, .cells [(0, [.P (some (66, 0)), .I .i64 (3), .I .i64 (0), .I .i64 (20), .I .i64 (40), .L (some (2587, 0)) 1 (.e 0), .L (some (2690, 0)) 9 (.e 0), .I .i64 (40), .L (some (2587, 0)) 1 (.e 0), .B false])] 10 none),
  (2587, .cells [(0, [.I .u64 (2)])] 1 (some 1)),
  (2690, .cells [(0, [.I .u8 (1), .I .u8 (1), .I .u8 (1), .I .u8 (3), .I .u8 (1), .I .u8 (3), .I .u8 (1), .I .u8 (1), .I .u8 (0)])] 9 (some 1)),
  (1729, .cells [(0, [.P (some (1698, 0)), .P (some (1730, 0)), .I .i64 (4), .L (some (2198, 0)) 1 (.e 0), .M (some 1728), .I .i64 (1), .B false])] 7 none),
  (1730, .cells [(0, [.I .i64 (1), .P (some (1780, 0))])] 2 none),
  (1780, .cells [(0, [.I .i64 (0), .L (some (2237, 0)) 1 (.e 0), .L none 0 (.k 0), .L none 0 (.k 0), .L none 0 (.k 0), .L none 0 (.k 0), .B false, .I .i64 (1)])] 8 none),
  (2237, .cells [(0, [.S [107], .L (some (2234, 0)) 1 (.e 0)])] 2 (some 2)),
  (2234, .cells [(0, [.I .i64 (0), .I .i64 (3), .B false, .S [118]])] 4 (some 4)),
  (2198, .cells [(0, [.I .i64 (1), .I .i64 (0), .B false])] 3 (some 3)),
  (1728, .map [(.I .i64 (1), .C (.P (some (1730, 0))), 0)] 1),
  (1794, .cells [(0, [.P (some (66, 0)), .I .i64 (8), .I .i64 (20), .I .i64 (3), .I .i64 (0), .L none 0 (.k 0), .L none 0 (.k 0), .B false, .B false])] 9 none),
  (1825, .cells [(0, [.I .i64 (3), .I .u32 (1), .I .i32 (0), .I .u32 (0), .I .u32 (1)])] 5 none)]
noncomputable def opA : List AV := [.V (.C (.P (some (66, 0)))), .V (.C (.I .i64 4))]
noncomputable def opZ : AV := .U [.C (.P (some (1826, 0))), .C (.I .i64 0)]
theorem open24_ran : ltRun opZ litB (nat_lit 3000) ((clK (iyV entP) (nat_lit 300)).call 9 opA (litH litA (nat_lit 1500))) = true := by kernel_rfl
noncomputable def entQ : List EnyF := ⟨9, ltO litA (nat_lit 1500) opA opZ litB (nat_lit 3000)⟩ :: entP
theorem entQ_ok (vals : Nat → Nat × Nat) : ∀ e ∈ entQ, YOkV vals e.f e.g := by
  intro e he
  rcases List.mem_cons.1 he with rfl | he
  · exact lt_ok (entP_ok vals) open24_ran
  · exact entP_ok vals e he
theorem aw24_ran : ranOk ((clK (iyV entQ) (nat_lit 300)).call 6 [] (h0 numG tabG 0)) = true := by kernel_rfl
end Ev
theorem aw24 (w : World) (hT : TabOK w) : Calls Tryz.prog 6 #[] w fun e w' => e = .returned (.bool true) ∧ Same w w' := Ev.ranP (Ev.entQ_ok _) Ev.aw24_ran w hT
end Go.Proofs.YtlkgdpdnhnakoaaGreatDoor
