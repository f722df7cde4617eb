/- Walks over the document's maps: Set, whole. -/
import Derived.Test.YtmolmamfmboeoaaDoorBmR9
namespace Go.Proofs.YtmolmamfmboeoaaDoor
open Go.RowKit

theorem rb_set (s : Int) (a : Option Addr) (cap : Nat) (ws : List Nat) (n : Int) (on : Bool) (w : World) (hw : Words ws) (hnil : a = none → cap = 0) (hat : NatsAt w .u64 a ws) :
    Calls Tryd.prog 13 #[mapV s a ws.length cap, .int .i64 n, .bool on] w (MapAt w s (setN s ws n on)) := by
  by_cases h : mapOK s ws = false ∨ n < 0 ∨ s ≤ n ∨ bitN ws n.toNat = on
  · have e : setN s ws n on = ws := by
      rcases h with h | h | h | h
      · simp [setN, inB, h]
      · have : ¬ 0 ≤ n := by omega
        simp [setN, inB, this]
      · have : ¬ n < s := by omega
        simp [setN, inB, this]
      · exact setN_same h
    rw [e]
    exact rb_set_same s a cap ws n on w hw hnil hat h
  · have h1 : mapOK s ws = true := by
      cases hm : mapOK s ws
      · exact absurd (.inl hm) h
      · rfl
    have h2 : 0 ≤ n := by
      by_cases h0 : 0 ≤ n
      · exact h0
      · exact absurd (.inr (.inl (by omega))) h
    have h3 : n < s := by
      by_cases h0 : n < s
      · exact h0
      · exact absurd (.inr (.inr (.inl (by omega)))) h
    have h4 : bitN ws n.toNat = !on := by
      cases hb : bitN ws n.toNat <;> cases on
      · exact absurd (.inr (.inr (.inr hb))) h
      · rfl
      · rfl
      · exact absurd (.inr (.inr (.inr hb))) h
    obtain ⟨N, rfl⟩ := Int.eq_ofNat_of_zero_le h2
    obtain ⟨S, rfl⟩ := Int.eq_ofNat_of_zero_le (show 0 ≤ s by omega)
    rw [Int.toNat_natCast] at h4
    have e : setN S ws N on = putN ws N on := by
      have h3' : N < S := by omega
      simp [setN, inB, h1, h3']
    rw [e]
    rcases hat with h0 | ⟨b, off, rfl, hb, hc⟩
    · subst h0
      have p2 := mapOK_len h1
      rw [Int.toNat_natCast] at p2
      simp at p2
      omega
    · exact rb_set_put S N b off cap ws on w hw (.inr ⟨b, off, rfl, hb, hc⟩) h1 (by omega) h4

end Go.Proofs.YtmolmamfmboeoaaDoor
