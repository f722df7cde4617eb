/- GOr: Ora2, Ora3. -/
import Derived.Test.YtlkgdpdnhnakoaaGreatDoorOra1
import Derived.Deep.RegionWith
import Derived.Deep.RegionHeld3
import Derived.Deep.DeepMust
namespace Go.Proofs.YtlkgdpdnhnakoaaGreatDoor
open Go.RowKit
/-- The cells of an oracle. -/
abbrev oraC (at_ d ms se st : Int) : Array Value := #[.int .i64 at_, .int .u32 d, .int .i32 ms, .int .u32 se, .int .u32 st]
end Go.Proofs.YtlkgdpdnhnakoaaGreatDoor
namespace Go.Proofs.YtlkgdpdnhnakoaaGreatDoor
open Go.RowKit
def bitI (s : Bool) : Int := if s then 1 else 0
/-- Block b is an oracle that stands at n and was started or not. -/
def Ora (w : World) (b : Nat) (n : Int) (s : Bool) : Prop := Blk w b (oraC n (bitI s) 0 0 (bitI s)) 211
theorem ora_now (b : Nat) (n : Int) (s : Bool) (w : World) (hb : Ora w b n s) : Calls Tryz.prog 61 #[.pointer (some ⟨b, 0, none⟩)] w fun e w' => e = .returned (.int .i64 n) ∧ w = w' := by
  have HB := Lib.hid hb; clear hb
  go_enter Tryz.func61, Tryz.ntmps61
  go_wp2_with (go_at_call 138; go_must (refine (at_load64 _ n _ (by exact Blk.cell HB.out 0 rfl)).mono ?_); rintro e w' ⟨rfl, rfl⟩)
  go_ret
  exact ⟨rfl, rfl⟩
theorem ora_new (w : World) : Calls Tryz.prog 39 #[] w fun e w' => e = .returned (.pointer (some ⟨w.heap.size, 0, none⟩)) ∧ Ora w' w.heap.size 0 false ∧ w.alloc (.cells (oraC 0 0 0 0 0) 211) = w' := by
  go_enter Tryz.func39, Tryz.ntmps39
  go_wp2
  go_ret
  exact ⟨rfl, Blk.new w _ _, rfl⟩
end Go.Proofs.YtlkgdpdnhnakoaaGreatDoor
