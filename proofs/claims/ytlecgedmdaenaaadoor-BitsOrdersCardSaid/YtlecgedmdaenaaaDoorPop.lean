/- Plain: how many nodes a set has; the count of math/bits.OnesCount64 is it. -/
namespace Go.Proofs.YtlecgedmdaenaaaDoor.Bits

/-- How many of the first k bits of x are set. -/
def popU (k x : Nat) : Nat := match k with
  | 0 => 0
  | k + 1 => popU k (x / 2) + x % 2
def pop (x : Nat) : Nat := popU 64 x

theorem popU_le (k : Nat) : ∀ x, popU k x ≤ k := by
  induction k with
  | zero => intro x; exact Nat.le_refl _
  | succ k ih => intro x; have := ih (x / 2); simp only [popU]; omega

theorem and_split (h m r s : Nat) (hr : r < 256) (hs : s < 256) : (256 * h + r) &&& (256 * m + s) = 256 * (h &&& m) + (r &&& s) := by
  have h1 : r &&& s < 2 ^ 8 := Nat.and_lt_two_pow _ (by simpa using hs)
  apply Nat.eq_of_testBit_eq
  intro i
  rw [Nat.testBit_and]
  rw [show 256 = 2 ^ 8 from rfl, Nat.testBit_two_pow_mul_add _ (by simpa using hr), Nat.testBit_two_pow_mul_add _ (by simpa using hs), Nat.testBit_two_pow_mul_add _ h1]
  split
  · rw [Nat.testBit_and]
  · rw [Nat.testBit_and]

/-- A mask of k bytes, each m. -/
def mask (m : Nat) : Nat → Nat
  | 0 => 0
  | k + 1 => 256 * mask m k + m
def f1 (k x : Nat) : Nat := (x / 2 &&& mask 0x55 k) + (x &&& mask 0x55 k)
def f2 (k x : Nat) : Nat := (x / 4 &&& mask 0x33 k) + (x &&& mask 0x33 k)
def f3 (k x : Nat) : Nat := (x / 16 + x) &&& mask 0x0f k

theorem byte1 : ∀ b : Fin 2, ∀ r : Fin 256, ((128 * b.val + r.val / 2) &&& 0x55) = (r.val / 2 &&& 0x55) := by decide +kernel
theorem f1_step (k h r : Nat) (hr : r < 256) : f1 (k + 1) (256 * h + r) = 256 * f1 k h + ((r / 2 &&& 0x55) + (r &&& 0x55)) := by
  have e : (256 * h + r) / 2 = 256 * (h / 2) + (128 * (h % 2) + r / 2) := by omega
  have b := byte1 ⟨h % 2, by omega⟩ ⟨r, hr⟩
  simp only at b
  unfold f1
  rw [e]
  simp only [mask]
  rw [and_split _ _ _ _ (by omega) (by decide), and_split _ _ _ _ hr (by decide), b]
  omega

def g1 (r : Nat) : Nat := (r / 2 &&& 0x55) + (r &&& 0x55)
def g2 (r : Nat) : Nat := (r / 4 &&& 0x33) + (r &&& 0x33)
theorem g1_lt : ∀ r : Fin 256, g1 r.val < 256 := by decide +kernel
theorem byte2 : ∀ b : Fin 4, ∀ r : Fin 256, ((64 * b.val + r.val / 4) &&& 0x33) = (r.val / 4 &&& 0x33) := by decide +kernel
theorem f2_step (k h r : Nat) (hr : r < 256) : f2 (k + 1) (256 * h + r) = 256 * f2 k h + g2 r := by
  have e : (256 * h + r) / 4 = 256 * (h / 4) + (64 * (h % 4) + r / 4) := by omega
  have b := byte2 ⟨h % 4, by omega⟩ ⟨r, hr⟩
  simp only at b
  unfold f2 g2
  rw [e]
  simp only [mask]
  rw [and_split _ _ _ _ (by omega) (by decide), and_split _ _ _ _ hr (by decide), b]
  omega
theorem g2_small : ∀ r : Fin 256, g2 (g1 r.val) % 16 ≤ 4 ∧ g2 (g1 r.val) / 16 ≤ 4 := by decide +kernel
theorem byte3 : ∀ b : Fin 5, ∀ r : Fin 69, ((16 * b.val + r.val / 16 + r.val) &&& 15) = ((r.val / 16 + r.val) &&& 15) := by decide +kernel
theorem f3_step (k h r : Nat) (hh : h % 16 ≤ 4) (h1 : r % 16 ≤ 4) (h2 : r / 16 ≤ 4) : f3 (k + 1) (256 * h + r) = 256 * f3 k h + ((r / 16 + r) &&& 15) := by
  have e : (256 * h + r) / 16 + (256 * h + r) = 256 * (h / 16 + h) + (16 * (h % 16) + r / 16 + r) := by omega
  have b := byte3 ⟨h % 16, by omega⟩ ⟨r, by omega⟩
  simp only at b
  unfold f3
  rw [e]
  simp only [mask]
  rw [and_split _ _ _ _ (by omega) (by decide), b]
theorem byte_pop : ∀ r : Fin 256, ((g2 (g1 r.val) / 16 + g2 (g1 r.val)) &&& 15) = popU 8 r.val := by decide +kernel

def ff (k x : Nat) : Nat := f3 k (f2 k (f1 k x))
theorem low2 (k x : Nat) : f2 k (f1 k x) % 16 ≤ 4 := by
  cases k with
  | zero => simp [f2, mask]
  | succ k =>
    have e : x = 256 * (x / 256) + x % 256 := by omega
    have hr : x % 256 < 256 := by omega
    have hg := g1_lt ⟨x % 256, hr⟩
    have hs := g2_small ⟨x % 256, hr⟩
    simp only at hg hs
    rw [e, f1_step k _ _ hr]
    change f2 (k + 1) (256 * f1 k (x / 256) + g1 (x % 256)) % 16 ≤ 4
    rw [f2_step k _ _ hg]
    omega
theorem ff_step (k x : Nat) : ff (k + 1) x = 256 * ff k (x / 256) + popU 8 (x % 256) := by
  have e : x = 256 * (x / 256) + x % 256 := by omega
  have hr : x % 256 < 256 := by omega
  have hg := g1_lt ⟨x % 256, hr⟩
  have hs := g2_small ⟨x % 256, hr⟩
  have hp := byte_pop ⟨x % 256, hr⟩
  simp only at hg hs hp
  have l := low2 k (x / 256)
  unfold ff
  conv => lhs; rw [e, f1_step k _ _ hr]
  change f3 (k + 1) (f2 (k + 1) (256 * f1 k (x / 256) + g1 (x % 256))) = _
  rw [f2_step k _ _ hg, f3_step k _ _ l hs.1 hs.2, hp]
theorem popU_add (k x : Nat) : popU (k + 8) x = popU k (x / 256) + popU 8 (x % 256) := by
  have e : x / 2 / 2 / 2 / 2 / 2 / 2 / 2 / 2 = x / 256 := by omega
  simp only [popU]
  rw [e]
  omega
theorem ones (x : Nat) (hx : x < 2 ^ 64) : (ff 8 x + ff 8 x / 256 + (ff 8 x + ff 8 x / 256) / 65536 + (ff 8 x + ff 8 x / 256 + (ff 8 x + ff 8 x / 256) / 65536) / 4294967296) % 128 = pop x ∧ ff 8 x < 2 ^ 60 := by
  have p : pop x = popU 8 (x % 256) + popU 8 (x / 256 % 256) + popU 8 (x / 256 / 256 % 256) + popU 8 (x / 256 / 256 / 256 % 256) + popU 8 (x / 256 / 256 / 256 / 256 % 256) + popU 8 (x / 256 / 256 / 256 / 256 / 256 % 256) + popU 8 (x / 256 / 256 / 256 / 256 / 256 / 256 % 256) + popU 8 (x / 256 / 256 / 256 / 256 / 256 / 256 / 256 % 256) := by
    unfold pop
    rw [popU_add 56, popU_add 48, popU_add 40, popU_add 32, popU_add 24, popU_add 16, popU_add 8]
    have : x / 256 / 256 / 256 / 256 / 256 / 256 / 256 % 256 = x / 256 / 256 / 256 / 256 / 256 / 256 / 256 := by omega
    rw [this]
    omega
  have f : ff 8 x = popU 8 (x % 256) + 256 * (popU 8 (x / 256 % 256) + 256 * (popU 8 (x / 256 / 256 % 256) + 256 * (popU 8 (x / 256 / 256 / 256 % 256) + 256 * (popU 8 (x / 256 / 256 / 256 / 256 % 256) + 256 * (popU 8 (x / 256 / 256 / 256 / 256 / 256 % 256) + 256 * (popU 8 (x / 256 / 256 / 256 / 256 / 256 / 256 % 256) + 256 * popU 8 (x / 256 / 256 / 256 / 256 / 256 / 256 / 256 % 256))))))) := by
    rw [ff_step 7, ff_step 6, ff_step 5, ff_step 4, ff_step 3, ff_step 2, ff_step 1, ff_step 0]
    have : ∀ y, ff 0 y = 0 := fun y => by simp [ff, f3, mask]
    rw [this]
    omega
  have b0 := popU_le 8 (x % 256)
  have b1 := popU_le 8 (x / 256 % 256)
  have b2 := popU_le 8 (x / 256 / 256 % 256)
  have b3 := popU_le 8 (x / 256 / 256 / 256 % 256)
  have b4 := popU_le 8 (x / 256 / 256 / 256 / 256 % 256)
  have b5 := popU_le 8 (x / 256 / 256 / 256 / 256 / 256 % 256)
  have b6 := popU_le 8 (x / 256 / 256 / 256 / 256 / 256 / 256 % 256)
  have b7 := popU_le 8 (x / 256 / 256 / 256 / 256 / 256 / 256 / 256 % 256)
  generalize popU 8 (x % 256) = c0 at *
  generalize popU 8 (x / 256 % 256) = c1 at *
  generalize popU 8 (x / 256 / 256 % 256) = c2 at *
  generalize popU 8 (x / 256 / 256 / 256 % 256) = c3 at *
  generalize popU 8 (x / 256 / 256 / 256 / 256 % 256) = c4 at *
  generalize popU 8 (x / 256 / 256 / 256 / 256 / 256 % 256) = c5 at *
  generalize popU 8 (x / 256 / 256 / 256 / 256 / 256 / 256 % 256) = c6 at *
  generalize popU 8 (x / 256 / 256 / 256 / 256 / 256 / 256 / 256 % 256) = c7 at *
  generalize ff 8 x = y at *
  rw [p]
  have y1 : y / 256 = c1 + 256 * (c2 + 256 * (c3 + 256 * (c4 + 256 * (c5 + 256 * (c6 + 256 * c7))))) := by omega
  clear p
  obtain ⟨z, hz⟩ : ∃ z, y + y / 256 = z := ⟨_, rfl⟩
  have z1 : z = (c0 + c1) + 256 * ((c1 + c2) + 256 * ((c2 + c3) + 256 * ((c3 + c4) + 256 * ((c4 + c5) + 256 * ((c5 + c6) + 256 * ((c6 + c7) + 256 * c7)))))) := by omega
  have hy : y < 2 ^ 60 := by omega
  rw [hz]
  clear y1 hz f
  have z2 : z / 65536 = (c2 + c3) + 256 * ((c3 + c4) + 256 * ((c4 + c5) + 256 * ((c5 + c6) + 256 * ((c6 + c7) + 256 * c7)))) := by omega
  obtain ⟨v, hv⟩ : ∃ v, z + z / 65536 = v := ⟨_, rfl⟩
  have v1 : v = (c0 + c1 + c2 + c3) + 256 * ((c1 + c2 + c3 + c4) + 256 * ((c2 + c3 + c4 + c5) + 256 * ((c3 + c4 + c5 + c6) + 256 * ((c4 + c5 + c6 + c7) + 256 * ((c5 + c6 + c7) + 256 * ((c6 + c7) + 256 * c7)))))) := by omega
  rw [hv]
  clear z1 z2 hv
  have v2 : v / 4294967296 = (c4 + c5 + c6 + c7) + 256 * ((c5 + c6 + c7) + 256 * ((c6 + c7) + 256 * c7)) := by omega
  exact ⟨by omega, hy⟩
end Go.Proofs.YtlecgedmdaenaaaDoor.Bits
