/- How many bits of a word are 1; no program in sight. -/
import Derived.Test.YtlkgdpdnhnakoaaGreatDoorBmBits
namespace Go.Proofs.YtlkgdpdnhnakoaaGreatDoor

/-- The ones among the lowest n bits. -/
def pop : Nat → Nat → Nat
  | 0, _ => 0
  | n + 1, x => x % 2 + pop n (x / 2)
theorem pop_le (n x : Nat) : pop n x ≤ n := by
  induction n generalizing x with
  | zero => simp [pop]
  | succ n ih => have := ih (x / 2); simp only [pop]; omega
theorem pop_add (n m x : Nat) : pop (n + m) x = pop n x + pop m (x / 2 ^ n) := by
  induction n generalizing x with
  | zero => simp [pop]
  | succ n ih =>
    rw [show n + 1 + m = (n + m) + 1 from by omega]
    simp only [pop]
    rw [ih, Nat.div_div_eq_div_mul, show 2 * 2 ^ n = 2 ^ (n + 1) from by rw [Nat.pow_succ, Nat.mul_comm]]
    omega

/-- Fields of h bits, n of them, each with the number of ones in it. -/
def fld (h : Nat) : Nat → Nat → Nat
  | 0, _ => 0
  | n + 1, x => pop h x + 2 ^ h * fld h n (x / 2 ^ h)
/-- Every other field of h bits all ones, n of them. -/
def msk (h : Nat) : Nat → Nat
  | 0 => 0
  | n + 1 => (2 ^ h - 1) + 2 ^ (h + h) * msk h n

theorem and_split (k a b c d : Nat) (ha : a < 2 ^ k) (hc : c < 2 ^ k) : (a + 2 ^ k * b) &&& (c + 2 ^ k * d) = (a &&& c) + 2 ^ k * (b &&& d) := by
  apply Nat.eq_of_testBit_eq
  intro i
  have e1 : a + 2 ^ k * b = 2 ^ k * b + a := Nat.add_comm _ _
  have e2 : c + 2 ^ k * d = 2 ^ k * d + c := Nat.add_comm _ _
  have e3 : (a &&& c) + 2 ^ k * (b &&& d) = 2 ^ k * (b &&& d) + (a &&& c) := Nat.add_comm _ _
  have hac : a &&& c < 2 ^ k := Nat.and_lt_two_pow _ hc
  rw [e1, e2, e3, Nat.testBit_and, Nat.testBit_two_pow_mul_add b ha, Nat.testBit_two_pow_mul_add d hc, Nat.testBit_two_pow_mul_add (b &&& d) hac]
  split <;> simp [Nat.testBit_and]

theorem fld_one (n x : Nat) (h : x < 2 ^ n) : fld 1 n x = x := by
  induction n generalizing x with
  | zero => simp at h; simp [fld, h]
  | succ n ih =>
    simp only [fld, pop]
    rw [ih (x / 2 ^ 1) (by rw [Nat.pow_succ] at h; omega)]
    omega

theorem lt_pow (h : Nat) : h < 2 ^ h := Nat.lt_two_pow_self

theorem two_fields (h a b : Nat) (ha : a < 2 ^ h) (hb : b < 2 ^ h) : a + 2 ^ h * b < 2 ^ (h + h) := by
  rw [Nat.pow_add]
  have h1 : 2 ^ h * (b + 1) ≤ 2 ^ h * 2 ^ h := Nat.mul_le_mul_left _ hb
  rw [Nat.mul_add, Nat.mul_one] at h1
  omega

/-- Two fields' numbers added, beside a mask. -/
theorem fld_step (h n x : Nat) : ((fld h (n + n) x / 2 ^ h) &&& msk h n) + (fld h (n + n) x &&& msk h n) = fld (h + h) n x := by
  induction n generalizing x with
  | zero => simp [fld, msk]
  | succ n ih =>
    have hl := lt_pow h
    have p0 := pop_le h x
    have p1 := pop_le h (x / 2 ^ h)
    have q2 : x / 2 ^ h / 2 ^ h = x / 2 ^ (h + h) := by rw [Nat.div_div_eq_div_mul, Nat.pow_add]
    have hpos : 0 < 2 ^ h := Nat.two_pow_pos h
    have ef : fld h (n + 1 + (n + 1)) x = (pop h x + 2 ^ h * pop h (x / 2 ^ h)) + 2 ^ (h + h) * fld h (n + n) (x / 2 ^ (h + h)) := by
      rw [show n + 1 + (n + 1) = n + n + 1 + 1 from by omega]
      simp only [fld]
      rw [q2, Nat.mul_add, ← Nat.mul_assoc, ← Nat.pow_add]
      omega
    have hlow : pop h x + 2 ^ h * pop h (x / 2 ^ h) < 2 ^ (h + h) := two_fields _ _ _ (by omega) (by omega)
    have ed : fld h (n + 1 + (n + 1)) x / 2 ^ h = (pop h (x / 2 ^ h) + 2 ^ h * (fld h (n + n) (x / 2 ^ (h + h)) % 2 ^ h)) + 2 ^ (h + h) * (fld h (n + n) (x / 2 ^ (h + h)) / 2 ^ h) := by
      rw [ef, Nat.pow_add, Nat.mul_assoc, Nat.add_assoc, ← Nat.mul_add, Nat.add_mul_div_left _ _ hpos, Nat.div_eq_of_lt (by omega), Nat.zero_add, Nat.mul_assoc, Nat.add_assoc, ← Nat.mul_add, Nat.mod_add_div]
    have hm : 2 ^ h - 1 < 2 ^ (h + h) := by
      have : 2 ^ h ≤ 2 ^ (h + h) := Nat.pow_le_pow_right (by decide) (by omega)
      omega
    have hlow2 : pop h (x / 2 ^ h) + 2 ^ h * (fld h (n + n) (x / 2 ^ (h + h)) % 2 ^ h) < 2 ^ (h + h) := two_fields _ _ _ (by omega) (Nat.mod_lt _ hpos)
    have e1 : fld h (n + 1 + (n + 1)) x &&& msk h (n + 1) = pop h x + 2 ^ (h + h) * (fld h (n + n) (x / 2 ^ (h + h)) &&& msk h n) := by
      rw [ef, msk, and_split _ _ _ _ _ hlow hm, Nat.and_two_pow_sub_one_eq_mod, Nat.add_mul_mod_self_left, Nat.mod_eq_of_lt (by omega)]
    have e2 : fld h (n + 1 + (n + 1)) x / 2 ^ h &&& msk h (n + 1) = pop h (x / 2 ^ h) + 2 ^ (h + h) * ((fld h (n + n) (x / 2 ^ (h + h)) / 2 ^ h) &&& msk h n) := by
      rw [ed, msk, and_split _ _ _ _ _ hlow2 hm, Nat.and_two_pow_sub_one_eq_mod, Nat.add_mul_mod_self_left, Nat.mod_eq_of_lt (by omega)]
    rw [e1, e2, show fld (h + h) (n + 1) x = pop (h + h) x + 2 ^ (h + h) * fld (h + h) n (x / 2 ^ (h + h)) from rfl, ← ih, pop_add, Nat.mul_add]
    omega

theorem fld_lt (h n x : Nat) : fld h n x < 2 ^ (h * n) := by
  induction n generalizing x with
  | zero => simp [fld]
  | succ n ih =>
    have hl := lt_pow h
    have p0 := pop_le h x
    have := ih (x / 2 ^ h)
    simp only [fld]
    rw [Nat.mul_add, Nat.mul_one, Nat.pow_add, Nat.mul_comm (2 ^ (h * n))]
    have h1 : 2 ^ h * (fld h n (x / 2 ^ h) + 1) ≤ 2 ^ h * 2 ^ (h * n) := Nat.mul_le_mul_left _ this
    rw [Nat.mul_add, Nat.mul_one] at h1
    omega

/-- Neighbours added ahead of the mask: there is room. -/
theorem fld_room (n x : Nat) : (fld 4 (n + n) x / 2 ^ 4 + fld 4 (n + n) x) &&& msk 4 n = fld 8 n x := by
  induction n generalizing x with
  | zero => simp [fld, msk]
  | succ n ih =>
    have p0 := pop_le 4 x
    have p1 := pop_le 4 (x / 2 ^ 4)
    have q2 : x / 2 ^ 4 / 2 ^ 4 = x / 2 ^ 8 := by rw [Nat.div_div_eq_div_mul]
    have ef : fld 4 (n + 1 + (n + 1)) x = (pop 4 x + 16 * pop 4 (x / 2 ^ 4)) + 256 * fld 4 (n + n) (x / 2 ^ 8) := by
      rw [show n + 1 + (n + 1) = n + n + 1 + 1 from by omega]
      simp only [fld]
      rw [q2]
      omega
    have hz : fld 4 (n + n) (x / 2 ^ 8) % 16 ≤ 4 := by
      cases hn : n + n with
      | zero => simp [fld]
      | succ m => simp only [fld]; have := pop_le 4 (x / 2 ^ 8); omega
    have ih' := ih (x / 2 ^ 8)
    have es : fld 8 (n + 1) x = (pop 4 x + pop 4 (x / 2 ^ 4)) + 2 ^ 8 * fld 8 n (x / 2 ^ 8) := by
      simp only [fld]
      rw [show pop 8 x = pop (4 + 4) x from rfl, pop_add]
    rw [es, ← ih', ef]
    generalize fld 4 (n + n) (x / 2 ^ 8) = z at *
    generalize pop 4 x = a at *
    generalize pop 4 (x / 2 ^ 4) = b at *
    rw [show (a + 16 * b + 256 * z) / 2 ^ 4 + (a + 16 * b + 256 * z) = (a + b + 16 * (b + z % 16)) + 2 ^ 8 * (z / 2 ^ 4 + z) from by omega, msk]
    rw [show 2 ^ (4 + 4) = 2 ^ 8 from rfl, and_split _ _ _ _ _ (by omega) (by decide)]
    rw [Nat.and_two_pow_sub_one_eq_mod, show (a + b + 16 * (b + z % 16)) % 2 ^ 4 = a + b from by omega]

theorem msk_32 : msk 1 32 = 6148914691236517205 := by decide
theorem msk_16 : msk 2 16 = 3689348814741910323 := by decide
theorem msk_8 : msk 4 8 = 1085102592571150095 := by decide

theorem sum8 (a0 a1 a2 a3 a4 a5 a6 a7 y0 y1 y2 y3 y4 y5 y6 : Nat) (h0 : a0 ≤ 8) (h1 : a1 ≤ 8) (h2 : a2 ≤ 8) (h3 : a3 ≤ 8) (h4 : a4 ≤ 8) (h5 : a5 ≤ 8) (h6 : a6 ≤ 8) (h7 : a7 ≤ 8)
    (e0 : y0 = a0 + 256 * y1) (e1 : y1 = a1 + 256 * y2) (e2 : y2 = a2 + 256 * y3) (e3 : y3 = a3 + 256 * y4) (e4 : y4 = a4 + 256 * y5) (e5 : y5 = a5 + 256 * y6) (e6 : y6 = a6 + 256 * a7) :
    (y0 + y0 / 256 + (y0 + y0 / 256) / 65536 + (y0 + y0 / 256 + (y0 + y0 / 256) / 65536) / 4294967296) % 128 = a0 + a1 + a2 + a3 + a4 + a5 + a6 + a7 := by
  have d0 : y0 / 256 = y1 := by omega
  rw [d0]
  clear d0
  obtain ⟨z0, hz0⟩ : ∃ z, z = y0 + y1 := ⟨_, rfl⟩
  obtain ⟨z1, hz1⟩ : ∃ z, z = y1 + y2 := ⟨_, rfl⟩
  obtain ⟨z2, hz2⟩ : ∃ z, z = y2 + y3 := ⟨_, rfl⟩
  obtain ⟨z3, hz3⟩ : ∃ z, z = y3 + y4 := ⟨_, rfl⟩
  obtain ⟨z4, hz4⟩ : ∃ z, z = y4 + y5 := ⟨_, rfl⟩
  obtain ⟨z5, hz5⟩ : ∃ z, z = y5 + y6 := ⟨_, rfl⟩
  obtain ⟨z6, hz6⟩ : ∃ z, z = y6 + a7 := ⟨_, rfl⟩
  have c0 : z0 = (a0 + a1) + 256 * z1 := by omega
  have c1 : z1 = (a1 + a2) + 256 * z2 := by omega
  have c2 : z2 = (a2 + a3) + 256 * z3 := by omega
  have c3 : z3 = (a3 + a4) + 256 * z4 := by omega
  have c4 : z4 = (a4 + a5) + 256 * z5 := by omega
  have c5 : z5 = (a5 + a6) + 256 * z6 := by omega
  have c6 : z6 = (a6 + a7) + 256 * a7 := by omega
  rw [← hz0]
  clear hz0 hz1 hz2 hz3 hz4 hz5 hz6 e0 e1 e2 e3 e4 e5 e6
  have d1 : z0 / 65536 = z2 := by clear c2 c3 c4 c5 c6; omega
  rw [d1]
  clear d1
  obtain ⟨u0, hu0⟩ : ∃ z, z = z0 + z2 := ⟨_, rfl⟩
  obtain ⟨u1, hu1⟩ : ∃ z, z = z1 + z3 := ⟨_, rfl⟩
  obtain ⟨u2, hu2⟩ : ∃ z, z = z2 + z4 := ⟨_, rfl⟩
  obtain ⟨u3, hu3⟩ : ∃ z, z = z3 + z5 := ⟨_, rfl⟩
  obtain ⟨u4, hu4⟩ : ∃ z, z = z4 + z6 := ⟨_, rfl⟩
  obtain ⟨u5, hu5⟩ : ∃ z, z = z5 + a7 := ⟨_, rfl⟩
  have b0 : u0 = (a0 + a1 + a2 + a3) + 256 * u1 := by omega
  have b1 : u1 = (a1 + a2 + a3 + a4) + 256 * u2 := by omega
  have b2 : u2 = (a2 + a3 + a4 + a5) + 256 * u3 := by omega
  have b3 : u3 = (a3 + a4 + a5 + a6) + 256 * u4 := by omega
  have b4 : u4 = (a4 + a5 + a6 + a7) + 256 * u5 := by omega
  rw [← hu0]
  clear hu0 hu1 hu2 hu3 hu4 hu5 c0 c1 c2 c3 c4 c5 c6
  have d2 : u0 / 4294967296 = u4 := by
    have t1 : u0 / 256 = u1 := by clear b1 b2 b3 b4; omega
    have t2 : u1 / 256 = u2 := by clear b0 b2 b3 b4; omega
    have t3 : u2 / 256 = u3 := by clear b0 b1 b3 b4; omega
    have t4 : u3 / 256 = u4 := by clear b0 b1 b2 b4; omega
    rw [show (4294967296 : Nat) = 256 * 256 * 256 * 256 from rfl, ← Nat.div_div_eq_div_mul, ← Nat.div_div_eq_div_mul, ← Nat.div_div_eq_div_mul, t1, t2, t3, t4]
  rw [d2]
  clear d2 b1 b2 b3
  omega

/-- The last additions. -/
theorem fld_sum (x : Nat) : (fld 8 8 x + fld 8 8 x / 256 + (fld 8 8 x + fld 8 8 x / 256) / 65536 + (fld 8 8 x + fld 8 8 x / 256 + (fld 8 8 x + fld 8 8 x / 256) / 65536) / 4294967296) % 128 = pop 64 x := by
  have key : ∀ n x, pop (8 * (n + 1)) x = pop 8 x + pop (8 * n) (x / 2 ^ 8) := fun n x => by rw [show 8 * (n + 1) = 8 + 8 * n from by omega, pop_add]
  have h8 : ∀ x, pop 8 x ≤ 8 := pop_le 8
  have step : ∀ n x, fld 8 (n + 1) x = pop 8 x + 256 * fld 8 n (x / 2 ^ 8) := fun _ _ => rfl
  rw [show pop 64 x = pop (8 * (7 + 1)) x from rfl, key 7, key 6, key 5, key 4, key 3, key 2, key 1]
  have z8 : ∀ y, fld 8 (0 + 1) y = pop 8 y := fun y => by rw [step 0, show fld 8 0 (y / 2 ^ 8) = 0 from rfl, Nat.mul_zero, Nat.add_zero]
  rw [sum8 _ _ _ _ _ _ _ _ (fld 8 8 x) (fld 8 7 _) (fld 8 6 _) (fld 8 5 _) (fld 8 4 _) (fld 8 3 _) (fld 8 2 _) (h8 x) (h8 _) (h8 _) (h8 _) (h8 _) (h8 _) (h8 _) (h8 _) (step 7 x) (step 6 _) (step 5 _) (step 4 _) (step 3 _) (step 2 _) (by rw [step 1, z8])]
  have e : ∀ y, pop (8 * 1) y = pop 8 y := fun _ => rfl
  simp only [e]
  omega

end Go.Proofs.YtlkgdpdnhnakoaaGreatDoor
