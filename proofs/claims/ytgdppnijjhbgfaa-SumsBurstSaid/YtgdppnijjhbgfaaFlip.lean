import Derived.Test.YtgdppnijjhbgfaaSeal
/-! A changed bit changes the remainder by what it comes to; changes within 32 bits never come to nothing. -/
namespace Go.Proofs.Ytgdppnijjhbgfaa.Crc
open Go.RowKit Go.Proofs.YtgdppnijjhbgfaaW.PrintWords Go.Proofs.Ytgdppnijjhbgfaa.Sums Go.Proofs.Ytgdppnijjhbgfaa.Pr
set_option linter.unusedVariables false
set_option linter.unusedSimpArgs false

theorem byteStep_xor (r d : BitVec 32) (c : Int) : byteStep (r ^^^ d) c = byteStep r c ^^^ stpN 8 d := by
  unfold byteStep
  rw [← stpN_xor]
  congr 1
  ac_rfl
theorem F_xor (l : List Int) : ∀ r d, F (r ^^^ d) l = F r l ^^^ stpN (8 * l.length) d := by
  induction l with
  | nil => intro r d; rfl
  | cons c l ih =>
    intro r d
    rw [F_cons, F_cons, byteStep_xor, ih, ← stpN_add]
    congr 2
theorem xor8_nat (a b : Nat) (ha : a < 256) (hb : b < 256) : bits .xor .u8 (a : Int) (b : Int) = ((a ^^^ b : Nat) : Int) := by
  show IntKind.u8.wrap ((BitVec.ofInt 8 (a : Int) ^^^ BitVec.ofInt 8 (b : Int)).toNat : Int) = _
  rw [IntKind.wrap_u8, BitVec.toNat_xor, BitVec.toNat_ofInt, BitVec.toNat_ofInt]
  have h1 : ((a : Int) % ((2 ^ 8 : Nat) : Int)).toNat = a := by omega
  have h2 : ((b : Int) % ((2 ^ 8 : Nat) : Int)).toNat = b := by omega
  rw [h1, h2]
  have := Nat.xor_lt_two_pow (n := 8) ha hb
  omega
theorem B_nat (a : Nat) (ha : a < 256) : (B (a : Int)).toNat = a := by unfold B; rw [BitVec.toNat_ofInt]; omega
theorem B_xor (c m : Int) (h0 : 0 ≤ c) (h1 : c < 256) (m0 : 0 ≤ m) (m1 : m < 256) : B (bits .xor .u8 c m) = B c ^^^ B m := by
  obtain ⟨a, rfl⟩ := Int.eq_ofNat_of_zero_le h0
  obtain ⟨b, rfl⟩ := Int.eq_ofNat_of_zero_le m0
  have h := Nat.xor_lt_two_pow (n := 8) (x := a) (y := b) (by omega) (by omega)
  rw [xor8_nat a b (by omega) (by omega)]
  apply BitVec.eq_of_toNat_eq
  rw [B_nat _ h, BitVec.toNat_xor, B_nat a (by omega), B_nat b (by omega)]
theorem xor8_mod2 (c m : Int) (h0 : 0 ≤ c) (h1 : c < 256) (m0 : 0 ≤ m) (m1 : m < 256) : bits .xor .u8 c m % 2 = (c + m) % 2 := by
  obtain ⟨a, rfl⟩ := Int.eq_ofNat_of_zero_le h0
  obtain ⟨b, rfl⟩ := Int.eq_ofNat_of_zero_le m0
  rw [xor8_nat a b (by omega) (by omega)]
  have h := @Nat.xor_mod_two_pow a b 1
  rw [Nat.pow_one] at h
  have ha : a % 2 = 0 ∨ a % 2 = 1 := by omega
  have hb : b % 2 = 0 ∨ b % 2 = 1 := by omega
  have h00 : (0 : Nat) ^^^ 0 = 0 := rfl
  have h01 : (0 : Nat) ^^^ 1 = 1 := rfl
  have h10 : (1 : Nat) ^^^ 0 = 1 := rfl
  have h11 : (1 : Nat) ^^^ 1 = 0 := rfl
  rcases ha with ha | ha <;> rcases hb with hb | hb <;> rw [ha, hb] at h <;> omega
theorem pow8 : ∀ q : Fin 8, B ((2 : Int) ^ q.val) = 1#32 <<< q.val ∧ stpN q.val (1#32 <<< q.val) = 1#32 ∧ (0 : Int) ≤ 2 ^ q.val ∧ (2 : Int) ^ q.val < 256 := by decide
theorem pow32 : ∀ q : Fin 32, stpN q.val (1#32 <<< q.val) = 1#32 ∧ (1#32 <<< q.val).getLsbD 0 = decide (q.val = 0) := by decide +kernel
theorem stp8_bit (q : Nat) (hq : q < 8) : stpN 8 (B ((2 : Int) ^ q)) = stpN (8 - q) 1#32 := by
  have h := pow8 ⟨q, hq⟩
  simp only at h
  have e : (8 : Nat) = (8 - q) + q := by omega
  have h3 := stpN_add (8 - q) q (1#32 <<< q)
  rw [h.2.1, ← e] at h3
  rw [h.1, h3]
theorem flip (l : List Int) (hl : Bytes l) (q : Nat) (hq : q < 8) : ∀ (r : BitVec 32) (p : Nat), p < l.length → F r (l.set p (bits .xor .u8 (rd l p) ((2 : Int) ^ q))) = F r l ^^^ stpN (8 * (l.length - p) - q) 1#32 := by
  induction l with
  | nil => intro r p hp; simp at hp
  | cons c l ih =>
    intro r p hp
    have hc := hl c (List.mem_cons_self ..)
    have h8 := pow8 ⟨q, hq⟩
    cases p with
    | zero =>
      have e : rd (c :: l) ((0 : Nat) : Int) = c := by simp [rd]
      rw [e, List.set_cons_zero, F_cons, F_cons]
      have : byteStep r (bits .xor .u8 c ((2 : Int) ^ q)) = byteStep r c ^^^ stpN (8 - q) 1#32 := by
        unfold byteStep
        rw [B_xor c _ hc.1 hc.2 h8.2.2.1 h8.2.2.2, ← BitVec.xor_assoc, stpN_xor, stp8_bit q hq]
      rw [this, F_xor, ← stpN_add]
      congr 2
      simp
      omega
    | succ p =>
      have e : rd (c :: l) ((p + 1 : Nat) : Int) = rd l (p : Int) := by simp [rd]
      rw [e, List.set_cons_succ, F_cons, F_cons, ih hl.tail _ _ (by simpa using hp)]
      congr 3
      simp
/-- The same, the bit told by its place k in all, the changes by a word that begins at bit 'at'. -/
theorem flip_at (l : List Int) (hl : Bytes l) (r : BitVec 32) (a i : Nat) (hi : i < 32) (hk : a + i < 8 * l.length) : F r (l.set ((a + i) / 8) (bits .xor .u8 (rd l (((a + i) / 8 : Nat) : Int)) ((2 : Int) ^ ((a + i) % 8)))) = F r l ^^^ stpN (8 * l.length - a) (1#32 <<< i) := by
  rw [flip l hl ((a + i) % 8) (by omega) r ((a + i) / 8) (by omega)]
  have e : 8 * l.length - a = (8 * (l.length - (a + i) / 8) - (a + i) % 8) + i := by omega
  rw [e, stpN_add, (pow32 ⟨i, hi⟩).1]
theorem set_bytes {l : List Int} (hl : Bytes l) (p : Nat) (x y : Int) : Bytes (l.set p (bits .xor .u8 x y)) := by
  intro z hz
  rcases List.mem_or_eq_of_mem_set hz with h | h
  · exact hl z h
  · rw [h]; exact bits_u8 .xor x y
theorem xor_cancel (a b : BitVec 32) (h : a = a ^^^ b) : b = 0#32 := by
  have : a ^^^ a = a ^^^ (a ^^^ b) := by rw [← h]
  rw [BitVec.xor_self, ← BitVec.xor_assoc, BitVec.xor_self, BitVec.zero_xor] at this
  exact this.symm
/-- Bytes whose remainder is another one have another sum. -/
theorem sum_ne {d l : List Int} (M : Nat) (E : BitVec 32) (hE : E ≠ 0#32) (h : F (ones ^^^ B 0) d = F (ones ^^^ B 0) l ^^^ stpN M E) : sumW d ≠ sumW l := by
  intro e
  have := V_inj e
  rw [h] at this
  have h2 : F (ones ^^^ B 0) l ^^^ stpN M E = F (ones ^^^ B 0) l := by
    have h3 := congrArg (fun x => ones ^^^ x) this
    simp only [← BitVec.xor_assoc, BitVec.xor_self, BitVec.zero_xor] at h3
    exact h3
  exact hE (stpN_inj0 M E (xor_cancel _ _ h2.symm))
theorem open_other {d t : List Int} (ht : t.length = 4) (h : be4 (sumW d) ≠ t) : openW (d ++ t) = ([], false) := by
  unfold openW
  rw [if_neg (by simp; omega)]
  have e : (d ++ t).take ((d ++ t).length - 4) = d := by simp [ht]
  rw [e]
  unfold sealW
  rw [if_neg (fun hh => h (List.append_cancel_left hh))]
end Go.Proofs.Ytgdppnijjhbgfaa.Crc
