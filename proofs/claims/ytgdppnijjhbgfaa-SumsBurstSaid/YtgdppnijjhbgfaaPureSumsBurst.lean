/- Sealed bytes of which bits that lie within 32 of one another, all ahead of the sum or all in it, are changed are not opened, for any bytes of at most 20000, any 32 bits and any place. -/
import Derived.Test.YtgdppnijjhbgfaaPr6 -- home allotmentlaw04_SumsBurst.Pure
import Derived.Test.YtgdppnijjhbgfaaFlip
namespace Go.Proofs.Ytgdppnijjhbgfaa.Pure
open Go.RowKit Go.Proofs.Ytgdppnijjhbgfaa.Pr Go.Proofs.YtgdppnijjhbgfaaW.PrintWords Go.Proofs.YtgdppnijjhbgfaaW.PrintLast Go.Proofs.Ytgdppnijjhbgfaa.Crc Go.Proofs.YtgdppnijjhbgfaaW.PrintMore
set_option linter.unusedVariables false
set_option linter.unusedSimpArgs false

theorem wr (x : Int) (h0 : -9223372036854775808 ≤ x) (h1 : x ≤ 9223372036854775807) : wrap64 x = x := by unfold wrap64; omega
theorem shl8 (q : Nat) (hq : q < 8) : shl .u8 1 (q : Int) = (2 : Int) ^ q := by
  have h : ∀ q : Fin 8, shl .u8 1 (q.val : Int) = (2 : Int) ^ q.val := by decide
  exact h ⟨q, hq⟩
theorem getD_left (l m : List Int) (i : Nat) (h : i < l.length) : (l ++ m).getD i 0 = l.getD i 0 := by
  rw [List.getD_eq_getElem?_getD, List.getD_eq_getElem?_getD, List.getElem?_append_left h]
theorem getD_right (l m : List Int) (i : Nat) (h : l.length ≤ i) : (l ++ m).getD i 0 = m.getD (i - l.length) 0 := by
  rw [List.getD_eq_getElem?_getD, List.getD_eq_getElem?_getD, List.getElem?_append_right h]
theorem rd_nat (l : List Int) (i : Nat) : rd l (i : Int) = l.getD i 0 := by simp [rd]

/-- Where the loop stands: the bits lie ahead of the sum. -/
def StA (l : List Int) (s : List Int) (at_ i : Nat) (x : List Int) : Prop := ∃ d E, x = d ++ s ∧ d.length = l.length ∧ Bytes d ∧ F (ones ^^^ B 0) d = F (ones ^^^ B 0) l ^^^ stpN (8 * l.length - at_) E ∧ E.getLsbD 0 = decide (0 < i)
/-- .. or in it. -/
def StB (l : List Int) (s : List Int) (i : Nat) (x : List Int) : Prop := ∃ t, x = l ++ t ∧ t.length = 4 ∧ Bytes t ∧ (rd t 0 % 2 = (rd s 0 + (if 0 < i then 1 else 0)) % 2)

theorem stepA {l s x : List Int} {at_ i : Nat} (hs : s.length = 4) (hi : i < 32) (hk : at_ + i < 8 * l.length) (h : StA l s at_ i x) (q : Bool) (hq : i = 0 → q = true) :
    StA l s at_ (i + 1) (if q then x.set ((at_ + i) / 8) (bits .xor .u8 (rd x (((at_ + i) / 8 : Nat) : Int)) ((2 : Int) ^ ((at_ + i) % 8))) else x) := by
  obtain ⟨d, E, rfl, hd, hb, hF, hE⟩ := h
  have hp : (at_ + i) / 8 < d.length := by omega
  cases q with
  | false =>
    have : i ≠ 0 := fun h => by cases hq h
    exact ⟨d, E, by simp, hd, hb, hF, by rw [hE]; simp; omega⟩
  | true =>
    have er : rd (d ++ s) (((at_ + i) / 8 : Nat) : Int) = rd d (((at_ + i) / 8 : Nat) : Int) := by
      rw [rd_nat, rd_nat, getD_left _ _ _ hp]
    refine ⟨d.set ((at_ + i) / 8) (bits .xor .u8 (rd d (((at_ + i) / 8 : Nat) : Int)) ((2 : Int) ^ ((at_ + i) % 8))), E ^^^ (1#32 <<< i), ?_, by simp [hd], set_bytes hb _ _ _, ?_, ?_⟩
    · rw [if_pos rfl, er, List.set_append_left _ _ hp]
    · rw [flip_at d hb _ at_ i hi (by omega), hF, hd, BitVec.xor_assoc, ← stpN_xor]
    · rw [BitVec.getLsbD_xor, hE, (pow32 ⟨i, hi⟩).2]
      cases i <;> simp
theorem skipA {l s x : List Int} {at_ i : Nat} (hi : 0 < i) (h : StA l s at_ i x) : StA l s at_ (i + 1) x := by
  obtain ⟨d, E, rfl, hd, hb, hF, hE⟩ := h
  exact ⟨d, E, rfl, hd, hb, hF, by rw [hE]; simp; omega⟩
theorem stepB {l s x : List Int} {i : Nat} (hi : i < 32) (h : StB l s i x) (q : Bool) (hq : i = 0 → q = true) :
    StB l s (i + 1) (if q then x.set ((8 * l.length + i) / 8) (bits .xor .u8 (rd x (((8 * l.length + i) / 8 : Nat) : Int)) ((2 : Int) ^ ((8 * l.length + i) % 8))) else x) := by
  obtain ⟨t, rfl, ht, hb, hF⟩ := h
  have e1 : (8 * l.length + i) / 8 = l.length + i / 8 := by omega
  have e2 : (8 * l.length + i) % 8 = i % 8 := by omega
  rw [e1, e2]
  cases q with
  | false =>
    have : i ≠ 0 := fun h => by cases hq h
    refine ⟨t, by simp, ht, hb, ?_⟩
    rw [hF, if_pos (by omega), if_pos (by omega)]
  | true =>
    have er : rd (l ++ t) ((l.length + i / 8 : Nat) : Int) = rd t ((i / 8 : Nat) : Int) := by
      rw [rd_nat, rd_nat, getD_right _ _ _ (by omega)]
      congr 1
      omega
    refine ⟨t.set (i / 8) (bits .xor .u8 (rd t ((i / 8 : Nat) : Int)) ((2 : Int) ^ (i % 8))), ?_, by simp [ht], set_bytes hb _ _ _, ?_⟩
    · rw [if_pos rfl, er, List.set_append_right _ _ (by omega)]
      congr 2
      omega
    · have hr : 0 ≤ rd t 0 ∧ rd t 0 < 256 := by
        cases t with
        | nil => simp at ht
        | cons c t => exact hb c (List.mem_cons_self ..)
      have e0 : rd t ((0 : Nat) : Int) = rd t 0 := rfl
      by_cases hi8 : i < 8
      · have e3 : i / 8 = 0 := by omega
        have e4 : i % 8 = i := by omega
        rw [e3, e4, e0]
        have e5 : rd (t.set 0 (bits .xor .u8 (rd t 0) ((2 : Int) ^ i))) 0 = bits .xor .u8 (rd t 0) ((2 : Int) ^ i) := by
          cases t with
          | nil => simp at ht
          | cons c t => simp [rd]
        have h8 := pow8 ⟨i, hi8⟩
        simp only at h8
        rw [e5, xor8_mod2 _ _ hr.1 hr.2 h8.2.2.1 h8.2.2.2]
        cases i with
        | zero => simp at hF ⊢; omega
        | succ i =>
          have : (2 : Int) ^ (i + 1) % 2 = 0 := by rw [Int.pow_succ]; omega
          rw [if_pos (by omega)] at hF
          rw [if_pos (by omega)]
          omega
      · have e5 : ∀ v, rd (t.set (i / 8) v) 0 = rd t 0 := by
          intro v
          cases t with
          | nil => simp at ht
          | cons c t =>
            obtain ⟨m, hm⟩ : ∃ m, i / 8 = m + 1 := ⟨i / 8 - 1, by omega⟩
            rw [hm]
            simp [rd]
        rw [e5, hF, if_pos (by omega), if_pos (by omega)]

theorem endA {l x : List Int} {at_ : Nat} (h : StA l (be4 (sumW l)) at_ 32 x) : openW x = ([], false) := by
  obtain ⟨d, E, rfl, hd, hb, hF, hE⟩ := h
  refine open_other rfl (fun hh => ?_)
  refine sum_ne _ E (fun h0 => ?_) hF (be4_inj (sumW_range d) (sumW_range l) hh)
  subst h0
  simp at hE
theorem endB {l x : List Int} (h : StB l (be4 (sumW l)) 32 x) : openW x = ([], false) := by
  obtain ⟨t, rfl, ht, hb, hF⟩ := h
  refine open_other ht (fun hh => ?_)
  rw [← hh] at hF
  simp at hF
  omega
theorem bytes_of {l s x : List Int} {at_ i : Nat} (hs : Bytes s) (h : StA l s at_ i x) : Bytes x := by
  obtain ⟨d, E, rfl, hd, hb, hF, hE⟩ := h
  exact bytes_append hb hs
theorem bytes_ofB {l s x : List Int} {i : Nat} (hl : Bytes l) (h : StB l s i x) : Bytes x := by
  obtain ⟨t, rfl, ht, hb, hF⟩ := h
  exact bytes_append hl hb
theorem len_of {l s x : List Int} {at_ i : Nat} (hs : s.length = 4) (h : StA l s at_ i x) : x.length = l.length + 4 := by
  obtain ⟨d, E, rfl, hd, hb, hF, hE⟩ := h
  simp [hs, hd]
theorem len_ofB {l s x : List Int} {i : Nat} (h : StB l s i x) : x.length = l.length + 4 := by
  obtain ⟨t, rfl, ht, hb, hF⟩ := h
  simp [ht]

/-- The first of the bits is set. -/
theorem bit0 (a : Int) : bits .and .u32 (shr .u32 (bits .or .u32 a 1) 0) 1 = 1 := by
  obtain ⟨x, hx⟩ := bitsV .or a 1
  have e : shr .u32 (bits .or .u32 a 1) 0 = bits .or .u32 a 1 := by unfold shr; simp
  rw [e, hx, andV, ofInt_V, show BitVec.ofInt 32 1 = 1#32 from by decide, and_one]
  have : x.getLsbD 0 = true := by
    have h2 : V x = V (BitVec.ofInt 32 a ||| BitVec.ofInt 32 1) := by
      rw [← hx]
      show IntKind.u32.wrap ((BitVec.ofInt 32 a ||| BitVec.ofInt 32 1).toNat : Int) = _
      rw [IntKind.wrap_u32]
      unfold V
      have := (BitVec.ofInt 32 a ||| BitVec.ofInt 32 1).isLt
      omega
    rw [V_inj h2, BitVec.getLsbD_or, show BitVec.ofInt 32 1 = 1#32 from by decide]
    simp
  rw [this]
  decide

theorem places (l : Nat) (hl : l ≤ 20000) (k j : Nat) (hk : k ≤ 8 * l) (hj : j < 32) : wrap64 ((k : Int) + (j : Int)) = ((k + j : Nat) : Int) ∧ wrap64 (8 * (l : Int)) = ((8 * l : Nat) : Int) ∧ wrap64 (Int.tdiv ((k + j : Nat) : Int) 8) = (((k + j) / 8 : Nat) : Int) ∧ Int.tmod ((k + j : Nat) : Int) 8 = (((k + j) % 8 : Nat) : Int) := by
  have e1 : Int.tdiv ((k + j : Nat) : Int) 8 = (((k + j) / 8 : Nat) : Int) := by rw [Int.tdiv_eq_ediv_of_nonneg (by omega)]; omega
  have e2 : Int.tmod ((k + j : Nat) : Int) 8 = (((k + j) % 8 : Nat) : Int) := by rw [Int.tmod_eq_emod_of_nonneg (by omega)]; omega
  refine ⟨by unfold wrap64; omega, by unfold wrap64; omega, ?_, e2⟩
  rw [e1]
  unfold wrap64
  omega

theorem loopA (l : List Int) (hl : Bytes l) (hn : l.length ≤ 20000) (b : Int) (hb : Aside0 (bits .and .u32 (shr .u32 b 0) 1 = 1)) (at_ : Nat) (ha : at_ < 8 * l.length) : ∀ (d k i : Nat) (x : List Int), i + d = 32 → StA l (be4 (sumW l)) at_ i x → allotmentlaw04_SumsBurst.l0 (k + d + 1) l b (at_ : Int) x (i : Int) = some true := by
  intro d
  induction d with
  | zero =>
    intro k i x hi h
    obtain rfl : i = 32 := by omega
    simp only [allotmentlaw04_SumsBurst.l0]
    rw [if_neg (by omega), open_f x (bytes_of (be4_bytes _) h) (by rw [len_of rfl h]; omega), endA h, wakes_f]
    simp
  | succ d ih =>
    intro k i x hi h
    have hi32 : i < 32 := by omega
    obtain ⟨p1, p2, p3, p4⟩ := places l.length hn at_ i (by omega) hi32
    have hx := len_of (l := l) rfl h
    have hw : wrap64 ((i : Int) + 1) = ((i + 1 : Nat) : Int) := by unfold wrap64; omega
    rw [show k + (d + 1) + 1 = (k + d + 1) + 1 from by omega]
    generalize hm : k + d + 1 = m
    simp only [allotmentlaw04_SumsBurst.l0]
    subst hm
    simp only [p1, p2, p3, p4, hw]
    clear p1 p2 p3 p4 hw
    have hst := fun hk => stepA (l := l) (s := be4 (sumW l)) rfl hi32 hk h true (fun _ => rfl)
    have hs8 := shl8 ((at_ + i) % 8) (by omega)
    simp only [if_true] at hst
    simp only [hs8, Int.toNat_natCast]
    clear hs8
    generalize hp : (at_ + i) / 8 = p at *
    generalize hr : (at_ + i) % 8 = r at *
    generalize hn : k + d + 1 = n at *
    refine ip (by omega) (ip (by omega) ?_)
    have a1 : (at_ : Int) < ((8 * l.length : Nat) : Int) := by omega
    have a2 : i + 1 + d = 32 := by omega
    have a3 : (0 : Int) ≤ (p : Int) := by omega
    have a4 : (0 : Int) ≤ (r : Int) := by omega
    have a5 : (p : Int) < (x.length : Int) := by rw [hx]; omega
    by_cases hk : at_ + i < 8 * l.length
    · have h2 := hst hk
      have a6 : ¬ ((at_ + i : Nat) : Int) ≥ ((8 * l.length : Nat) : Int) := by omega
      subst hn
      have h3 := ih k (i + 1) _ a2 h2
      by_cases hq : bits .and .u32 (shr .u32 b (i : Int)) 1 = 1
      · exact ip hq (ip a1 (ineg a6 (ip a3 (ip a5 (ip a4 h3)))))
      · have h0 : i ≠ 0 := fun h0 => hq (by subst h0; exact hb.out)
        exact ineg hq (ih k (i + 1) _ a2 (skipA (Nat.pos_of_ne_zero h0) h))
    · have a6 : ((at_ + i : Nat) : Int) ≥ ((8 * l.length : Nat) : Int) := by omega
      have h3 := ih k (i + 1) _ a2 (skipA (by omega) h)
      subst hn
      by_cases hq : bits .and .u32 (shr .u32 b (i : Int)) 1 = 1
      · exact ip hq (ip a1 (ip a6 h3))
      · exact ineg hq h3
theorem loopB (l : List Int) (hl : Bytes l) (hn : l.length ≤ 20000) (b : Int) (hb : Aside0 (bits .and .u32 (shr .u32 b 0) 1 = 1)) : ∀ (d k i : Nat) (x : List Int), i + d = 32 → StB l (be4 (sumW l)) i x → allotmentlaw04_SumsBurst.l0 (k + d + 1) l b ((8 * l.length : Nat) : Int) x (i : Int) = some true := by
  intro d
  induction d with
  | zero =>
    intro k i x hi h
    obtain rfl : i = 32 := by omega
    simp only [allotmentlaw04_SumsBurst.l0]
    rw [if_neg (by omega), open_f x (bytes_ofB hl h) (by rw [len_ofB h]; omega), endB h, wakes_f]
    simp
  | succ d ih =>
    intro k i x hi h
    have hi32 : i < 32 := by omega
    obtain ⟨p1, p2, p3, p4⟩ := places l.length hn (8 * l.length) i (by omega) hi32
    have hx := len_ofB h
    have hw : wrap64 ((i : Int) + 1) = ((i + 1 : Nat) : Int) := by unfold wrap64; omega
    rw [show k + (d + 1) + 1 = (k + d + 1) + 1 from by omega]
    generalize hm : k + d + 1 = m
    simp only [allotmentlaw04_SumsBurst.l0]
    subst hm
    simp only [p1, p2, p3, p4, hw]
    clear p1 p2 p3 p4 hw
    have hst := stepB hi32 h true (fun _ => rfl)
    have hs8 := shl8 ((8 * l.length + i) % 8) (by omega)
    simp only [if_true] at hst
    simp only [hs8, Int.toNat_natCast]
    clear hs8
    generalize hp : (8 * l.length + i) / 8 = p at *
    generalize hr : (8 * l.length + i) % 8 = r at *
    generalize hn : k + d + 1 = n at *
    refine ip (by omega) (ip (by omega) ?_)
    have a1 : ¬ ((8 * l.length : Nat) : Int) < ((8 * l.length : Nat) : Int) := by omega
    have a2 : i + 1 + d = 32 := by omega
    have a3 : (0 : Int) ≤ (p : Int) := by omega
    have a4 : (0 : Int) ≤ (r : Int) := by omega
    have a5 : (p : Int) < (x.length : Int) := by rw [hx]; omega
    subst hn
    have h3 := ih k (i + 1) _ a2 hst
    by_cases hq : bits .and .u32 (shr .u32 b (i : Int)) 1 = 1
    · exact ip hq (ineg a1 (ip a3 (ip a5 (ip a4 h3))))
    · have h0 : i ≠ 0 := fun h0 => hq (by subst h0; exact hb.out)
      have h4 := stepB hi32 h false (fun h => absurd h h0)
      simp only [Bool.false_eq_true, if_false] at h4
      exact ineg hq (ih k (i + 1) _ a2 h4)

theorem SumsBurst : allotmentlaw04_SumsBurst.Pure := by
  intro l a at_ _ _ hl0 _ hat
  have hl := wf_bytes hl0
  have hat := wf_i64 hat
  refine ⟨0 + 32 + 1, ?_⟩
  generalize hK : 0 + 32 + 1 = K
  unfold allotmentlaw04_SumsBurst.f
  by_cases h : (l.length : Int) > 20000
  · rw [if_pos h, wakes_f]; rfl
  · rw [if_neg h, seal_f l hl (by omega)]
    have hL : (sealW l).length = l.length + 4 := by simp [sealW, be4]
    have w1 : wrap64 ((l.length : Int) + 4) = (l.length : Int) + 4 := by unfold wrap64; omega
    have w2 : wrap64 (8 * (l.length : Int)) = 8 * (l.length : Int) := by unfold wrap64; omega
    have w3 : wrap64 (8 * (l.length : Int) + 1) = 8 * (l.length : Int) + 1 := by unfold wrap64; omega
    simp only [Option.bind_some, w1, w2, w3]
    clear w1 w2 w3
    refine ip (by rw [hL]; omega) (ineg (by omega) ?_)
    have m1 := Int.lt_tmod_of_pos at_ (b := 8 * (l.length : Int) + 1) (by omega)
    have m2 := Int.tmod_lt_of_pos at_ (b := 8 * (l.length : Int) + 1) (by omega)
    generalize Int.tmod at_ (8 * (l.length : Int) + 1) = m at *
    have w4 : wrap64 (m + (8 * (l.length : Int) + 1)) = m + (8 * (l.length : Int) + 1) := by unfold wrap64; omega
    simp only [w4]
    clear w4
    have n1 := Int.tmod_nonneg (8 * (l.length : Int) + 1) (a := m + (8 * (l.length : Int) + 1)) (by omega)
    have n2 := Int.tmod_lt_of_pos (m + (8 * (l.length : Int) + 1)) (b := 8 * (l.length : Int) + 1) (by omega)
    generalize Int.tmod (m + (8 * (l.length : Int) + 1)) (8 * (l.length : Int) + 1) = z at *
    obtain ⟨n, rfl⟩ := Int.eq_ofNat_of_zero_le n1
    have hb0 := Aside0.mk (bit0 a)
    have hsz : (0 : Int) = ((0 : Nat) : Int) := rfl
    rw [hsz]
    clear hsz
    generalize bits .or .u32 a 1 = b at *
    by_cases hz : n < 8 * l.length
    · have hA : StA l (be4 (sumW l)) n 0 (sealW l) := ⟨l, 0#32, rfl, rfl, hl, by rw [stpN_zero, BitVec.xor_zero], by simp⟩
      have e := loopA l hl (by omega) b hb0 n hz 32 0 0 (sealW l) (by omega) hA
      rw [hK] at e
      exact e
    · obtain rfl : n = 8 * l.length := by omega
      have hB : StB l (be4 (sumW l)) 0 (sealW l) := ⟨be4 (sumW l), rfl, rfl, be4_bytes _, by simp⟩
      have e := loopB l hl (by omega) b hb0 32 0 0 (sealW l) (by omega) hB
      rw [hK] at e
      exact e

end Go.Proofs.Ytgdppnijjhbgfaa.Pure
