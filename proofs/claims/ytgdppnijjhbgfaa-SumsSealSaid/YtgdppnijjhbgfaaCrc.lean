import Derived.Test.YtgdppnijjhbgfaaSums
/-! The sums' plain law: one step of the remainder is linear and one to one. -/
namespace Go.Proofs.Ytgdppnijjhbgfaa.Crc
open Go.RowKit Go.Proofs.YtgdppnijjhbgfaaW.PrintWords Go.Proofs.Ytgdppnijjhbgfaa.Sums
set_option linter.unusedVariables false
set_option linter.unusedSimpArgs false

/-- A word as a whole number. -/
def V (x : BitVec 32) : Int := (x.toNat : Int)
theorem V_range (x : BitVec 32) : 0 ≤ V x ∧ V x < 4294967296 := by unfold V; have := x.isLt; omega
theorem V_inj {x y : BitVec 32} (h : V x = V y) : x = y := BitVec.eq_of_toNat_eq (by unfold V at h; omega)
theorem ofInt_V (x : BitVec 32) : BitVec.ofInt 32 (V x) = x := by unfold V; simp
theorem V_of (n : Int) (h0 : 0 ≤ n) (h1 : n < 4294967296) : V (BitVec.ofInt 32 n) = n := by
  unfold V; rw [BitVec.toNat_ofInt]; omega
theorem bitsV (op : BinOp) (a b : Int) : ∃ x, bits op .u32 a b = V x := by
  have h := bits_u32 op a b
  exact ⟨BitVec.ofInt 32 (bits op .u32 a b), (V_of _ h.1 h.2).symm⟩
theorem xorV (a b : Int) : bits .xor .u32 a b = V (BitVec.ofInt 32 a ^^^ BitVec.ofInt 32 b) := by
  show IntKind.u32.wrap ((BitVec.ofInt 32 a ^^^ BitVec.ofInt 32 b).toNat : Int) = _
  rw [IntKind.wrap_u32]
  unfold V
  have := (BitVec.ofInt 32 a ^^^ BitVec.ofInt 32 b).isLt
  omega
theorem andV (a b : Int) : bits .and .u32 a b = V (BitVec.ofInt 32 a &&& BitVec.ofInt 32 b) := by
  show IntKind.u32.wrap ((BitVec.ofInt 32 a &&& BitVec.ofInt 32 b).toNat : Int) = _
  rw [IntKind.wrap_u32]
  unfold V
  have := (BitVec.ofInt 32 a &&& BitVec.ofInt 32 b).isLt
  omega

def stp (r : BitVec 32) : BitVec 32 := (r >>> 1) ^^^ (if r.getLsbD 0 then 0x82f63b78#32 else 0#32)
theorem stp_xor (a b : BitVec 32) : stp (a ^^^ b) = stp a ^^^ stp b := by
  unfold stp
  rw [BitVec.ushiftRight_xor_distrib, BitVec.getLsbD_xor]
  have h : ∀ p x y : BitVec 32, x ^^^ y = p ^^^ (p ^^^ (x ^^^ y)) := fun p x y => by rw [← BitVec.xor_assoc, BitVec.xor_self, BitVec.zero_xor]
  cases a.getLsbD 0 <;> cases b.getLsbD 0 <;> simp <;> first | ac_rfl | (rw [h 2197175160#32]; ac_rfl)
theorem stp_zero : stp 0#32 = 0#32 := by decide
theorem stp_inj0 (a : BitVec 32) (h : stp a = 0#32) : a = 0#32 := by
  unfold stp at h
  cases ha : a.getLsbD 0 with
  | true =>
    rw [ha] at h
    have := congrArg (fun x => x.getLsbD 31) h
    simp at this
  | false =>
    rw [ha] at h
    simp at h
    apply BitVec.eq_of_getLsbD_eq
    intro i hi
    cases i with
    | zero => simpa using ha
    | succ i =>
      have := congrArg (fun x => x.getLsbD i) h
      simp at this
      simpa [Nat.add_comm] using this
def stpN : Nat → BitVec 32 → BitVec 32
  | 0, r => r
  | n + 1, r => stp (stpN n r)
theorem stpN_xor (n : Nat) (a b : BitVec 32) : stpN n (a ^^^ b) = stpN n a ^^^ stpN n b := by
  induction n with
  | zero => rfl
  | succ n ih => simp only [stpN, ih, stp_xor]
theorem stpN_zero (n : Nat) : stpN n 0#32 = 0#32 := by
  induction n with
  | zero => rfl
  | succ n ih => simp only [stpN, ih, stp_zero]
theorem stpN_inj0 (n : Nat) (a : BitVec 32) (h : stpN n a = 0#32) : a = 0#32 := by
  induction n with
  | zero => exact h
  | succ n ih => exact ih (stp_inj0 _ h)
theorem stpN_add (m n : Nat) (a : BitVec 32) : stpN (m + n) a = stpN m (stpN n a) := by
  induction m with
  | zero => simp [stpN]
  | succ m ih => rw [Nat.succ_add]; simp only [stpN, ih]

theorem ofInt_two (r : BitVec 32) : BitVec.ofInt 32 (V r / 2) = r >>> 1 := by
  apply V_inj
  have := V_range r
  rw [V_of _ (by omega) (by omega)]
  unfold V
  rw [BitVec.toNat_ushiftRight, Nat.shiftRight_eq_div_pow]
  omega
theorem ofInt_256 (r : BitVec 32) : BitVec.ofInt 32 (V r / 256) = r >>> 8 := by
  apply V_inj
  have := V_range r
  rw [V_of _ (by omega) (by omega)]
  unfold V
  rw [BitVec.toNat_ushiftRight, Nat.shiftRight_eq_div_pow]
  omega
theorem and_one (r : BitVec 32) : r &&& 1#32 = if r.getLsbD 0 then 1#32 else 0#32 := by
  apply BitVec.eq_of_getLsbD_eq
  intro i hi
  cases i with
  | zero => cases h : r.getLsbD 0 <;> simp at h <;> simp [h]
  | succ i => cases h : r.getLsbD 0 <;> simp [h, BitVec.getLsbD_one]
/-- One step of the program's, and of the document's. -/
theorem eStep_V (r : BitVec 32) : eStep (V r) = V (stp r) := by
  unfold eStep stp
  rw [xorV, ofInt_two, andV, ofInt_V, andV, ofInt_V]
  have h1 : BitVec.ofInt 32 1 = 1#32 := by decide
  rw [h1, and_one]
  cases h : r.getLsbD 0 with
  | false =>
    rw [show BitVec.ofInt 32 (-V (if false = true then 1#32 else 0#32) % 4294967296) = 0#32 from by decide]
    simp
  | true =>
    rw [show BitVec.ofInt 32 (-V (if true = true then 1#32 else 0#32) % 4294967296) = BitVec.allOnes 32 from by decide]
    rw [show BitVec.ofInt 32 2197175160 = 2197175160#32 from by decide]
    simp
theorem eIter_V (n : Nat) (r : BitVec 32) : eIter n (V r) = V (stpN n r) := by
  induction n with
  | zero => rfl
  | succ n ih => rw [eIter_succ, ih, eStep_V]; rfl

theorem stp_even (y : BitVec 32) (h : y.getLsbD 0 = false) : stp y = y >>> 1 := by unfold stp; rw [h]; simp
theorem stpN_low (n : Nat) (y : BitVec 32) (h : ∀ i, i < n → y.getLsbD i = false) : stpN n y = y >>> n := by
  induction n with
  | zero => simp [stpN]
  | succ n ih =>
    simp only [stpN]
    rw [ih (fun i hi => h i (by omega)), stp_even _ (by rw [BitVec.getLsbD_ushiftRight]; exact h _ (by omega)), BitVec.shiftRight_add]
theorem split8 (x : BitVec 32) : stpN 8 x = (x >>> 8) ^^^ stpN 8 (x &&& 255#32) := by
  have gen : ∀ m : BitVec 32, x = (x &&& ~~~m) ^^^ (x &&& m) := by
    intro m
    apply BitVec.eq_of_getLsbD_eq
    intro i hi
    simp [hi]
    cases x[i] <;> cases m[i] <;> simp
  have e := gen 255#32
  have h1 : stpN 8 (x &&& ~~~255#32) = (x &&& ~~~255#32) >>> 8 := by
    apply stpN_low
    intro i hi
    have : i = 0 ∨ i = 1 ∨ i = 2 ∨ i = 3 ∨ i = 4 ∨ i = 5 ∨ i = 6 ∨ i = 7 := by omega
    rw [BitVec.getLsbD_and]
    rcases this with rfl | rfl | rfl | rfl | rfl | rfl | rfl | rfl <;> simp
  have h2 : (x &&& ~~~255#32) >>> 8 = x >>> 8 := by
    apply BitVec.eq_of_getLsbD_eq
    intro i hi
    rw [BitVec.getLsbD_ushiftRight, BitVec.getLsbD_ushiftRight, BitVec.getLsbD_and]
    have h3 : ∀ j : Fin 32, (8 : Nat) + j.val < 32 → (~~~255#32).getLsbD (8 + j.val) = true := by decide
    by_cases hj : 8 + i < 32
    · rw [h3 ⟨i, hi⟩ hj]; simp
    · rw [BitVec.getLsbD_of_ge _ _ (by omega)]; simp
  conv => lhs; rw [e]
  rw [stpN_xor, h1, h2]

/-- A byte as a word. -/
def B (c : Int) : BitVec 32 := BitVec.ofInt 32 c
def byteStep (r : BitVec 32) (c : Int) : BitVec 32 := stpN 8 (r ^^^ B c)
def F (r : BitVec 32) (l : List Int) : BitVec 32 := l.foldl byteStep r
theorem F_nil (r : BitVec 32) : F r [] = r := rfl
theorem F_cons (r : BitVec 32) (c : Int) (l : List Int) : F r (c :: l) = F (byteStep r c) l := rfl
theorem F_append (r : BitVec 32) (l m : List Int) : F r (l ++ m) = F (F r l) m := by unfold F; rw [List.foldl_append]
theorem toNat_xor_mod (a b : Nat) (hb : b < 256) : (a ^^^ b) % 256 = (a % 256) ^^^ b := by
  have h : (256 : Nat) = 2 ^ 8 := rfl
  rw [h, Nat.xor_mod_two_pow, Nat.mod_eq_of_lt (a := b) (by omega)]
theorem xor8V (r : BitVec 32) (c : Int) (h0 : 0 ≤ c) (h1 : c < 256) : bits .xor .u8 (V r % 256) c = V ((r ^^^ B c) &&& 255#32) := by
  obtain ⟨n, rfl⟩ := Int.eq_ofNat_of_zero_le h0
  have e8 : (BitVec.ofInt 8 (V r % 256)).toNat = r.toNat % 256 := by rw [BitVec.toNat_ofInt]; unfold V; omega
  have en : (BitVec.ofInt 8 (n : Int)).toNat = n := by rw [BitVec.toNat_ofInt]; omega
  have eB : (B (n : Int)).toNat = n := by unfold B; rw [BitVec.toNat_ofInt]; omega
  show IntKind.u8.wrap ((BitVec.ofInt 8 (V r % 256) ^^^ BitVec.ofInt 8 (n : Int)).toNat : Int) = _
  rw [IntKind.wrap_u8]
  have h2 := (BitVec.ofInt 8 (V r % 256) ^^^ BitVec.ofInt 8 (n : Int)).isLt
  unfold V
  have h3 : ((r ^^^ B (n : Int)) &&& 255#32).toNat = (BitVec.ofInt 8 (V r % 256) ^^^ BitVec.ofInt 8 (n : Int)).toNat := by
    rw [BitVec.toNat_and, BitVec.toNat_xor, BitVec.toNat_xor, e8, en, eB]
    have : (255#32).toNat = 2 ^ 8 - 1 := rfl
    rw [this, Nat.and_two_pow_sub_one_eq_mod]
    have := toNat_xor_mod r.toNat n (by omega)
    simpa using this
  unfold V at h2 h3
  rw [h3]
  omega
theorem B_shift (r : BitVec 32) (c : Int) (h0 : 0 ≤ c) (h1 : c < 256) : (r ^^^ B c) >>> 8 = r >>> 8 := by
  rw [BitVec.ushiftRight_xor_distrib]
  have : B c >>> 8 = 0#32 := by
    apply BitVec.eq_of_toNat_eq
    rw [BitVec.toNat_ushiftRight, Nat.shiftRight_eq_div_pow]
    unfold B
    rw [BitVec.toNat_ofInt]
    simp
    omega
  rw [this]; simp
theorem mStep_V (r : BitVec 32) (c : Int) (h0 : 0 ≤ c) (h1 : c < 256) : mStep (V r) c = V (byteStep r c) := by
  unfold mStep byteStep
  rw [xor8V r c h0 h1, eIter_V, xorV, ofInt_256, ofInt_V, split8 (r ^^^ B c), B_shift r c h0 h1]
def Bytes (l : List Int) : Prop := ∀ x, x ∈ l → 0 ≤ x ∧ x < 256
theorem Bytes.tail {c : Int} {l : List Int} (h : Bytes (c :: l)) : Bytes l := fun x hx => h x (List.mem_cons_of_mem _ hx)
theorem mores_V (l : List Int) (hl : Bytes l) : ∀ r, mores (V r) l = V (F r l) := by
  induction l with
  | nil => intro r; rfl
  | cons c l ih =>
    intro r
    have hc := hl c (List.mem_cons_self ..)
    show mores (mStep (V r) c) l = _
    rw [mStep_V r c hc.1 hc.2, ih hl.tail]
    rfl
end Go.Proofs.Ytgdppnijjhbgfaa.Crc
