/- However messages are delivered, and whatever of what they may cause they cause, it ends, with no more deliveries than the sum said: up to 40 messages, 1 to 8 clients, up to 300 picks. -/
import Derived.Test.YtgdppnijjhbgfaaPr9 -- home allotmentlaw29_RoundEnds.Pure
import Derived.Test.YtgdppnijjhbgfaaRoundW
import Derived.Test.YtgdppnijjhbgfaaMine
namespace Go.Proofs.Ytgdppnijjhbgfaa.Pure
open Go.RowKit Go.Proofs.Ytgdppnijjhbgfaa.Pr Go.Proofs.YtgdppnijjhbgfaaW.PrintWords Go.Proofs.YtgdppnijjhbgfaaW.PrintLast Go.Proofs.Ytgdppnijjhbgfaa.RoundW Go.Proofs.Ytgdppnijjhbgfaa.Round
set_option linter.unusedVariables false
set_option linter.unusedSimpArgs false

theorem causes_l0 (c : Int) (h : 1 ≤ c ∧ c ≤ 8) : ∀ (d k i : Nat), (i : Int) + d = c → allotmentlaw29_causes.l0 (k + d + 1) (6 :: List.replicate i 8) c (i : Int) = some (6 :: List.replicate (i + d) 8) := by
  intro d
  induction d with
  | zero =>
    intro k i hi
    simp only [allotmentlaw29_causes.l0]
    rw [if_neg (by omega)]
    rfl
  | succ d ih =>
    intro k i hi
    rw [show k + (d + 1) + 1 = (k + d + 1) + 1 from by omega]
    have h2 := ih k (i + 1) (by omega)
    generalize k + d + 1 = m at *
    simp only [allotmentlaw29_causes.l0]
    have hw : wrap64 ((i : Int) + 1) = ((i + 1 : Nat) : Int) := ww _ (by omega) (by omega)
    have e : (6 :: List.replicate i (8 : Int)) ++ [8] = 6 :: List.replicate (i + 1) 8 := by
      rw [List.cons_append, ← List.replicate_succ']
    rw [if_pos (by omega), if_pos (by simp; omega), hw, e, h2, show i + 1 + d = i + (d + 1) from by omega]
/-- What a message causes. -/
def cz (k c : Int) : List Int := if k = 5 then 6 :: List.replicate c.toNat 8 else if k = 2 then [3] else if k = 9 then [10] else if k = 8 then [9] else []
theorem causes_f (k c : Int) (h : 1 ≤ c ∧ c ≤ 8) (n : Nat) (hn : 20 ≤ n) : allotmentlaw29_causes.f n k c = some (cz k c) := by
  unfold allotmentlaw29_causes.f cz
  by_cases h5 : k = 5
  · rw [if_pos h5, if_pos h5]
    have := causes_l0 c h c.toNat (n - (c.toNat + 1)) 0 (by omega)
    rw [show n - (c.toNat + 1) + c.toNat + 1 = n from by omega] at this
    simpa using this
  · rw [if_neg h5, if_neg h5]
    repeat' split
    all_goals rfl
theorem tot_rep (c : Int) (n : Nat) : tot c (List.replicate n 8) = n * wF 8 c := by
  induction n with
  | zero => simp [tot]
  | succ n ih =>
    rw [List.replicate_succ]
    simp only [tot, ih]
    rw [Int.natCast_succ, Int.add_mul]
    omega
theorem cz_tot (k c : Int) (h : 1 ≤ c ∧ c ≤ 8) : tot c (cz k c) = wF k c - 1 := by
  have w8 := wF_in 8 c h
  have w6 := wF_in 6 c h
  have w3 := wF_in 3 c h
  have w10 := wF_in 10 c h
  have w9 := wF_in 9 c h
  have wk := wF_in k c h
  simp at w8 w6 w3 w10 w9
  unfold cz
  by_cases h5 : k = 5
  · rw [if_pos h5]
    rw [if_pos h5] at wk
    simp only [tot, tot_rep, w6, w8, wk]
    omega
  · rw [if_neg h5]
    rw [if_neg h5] at wk
    by_cases h2 : k = 2
    · rw [if_pos h2]; rw [if_pos h2] at wk; simp only [tot]; omega
    · rw [if_neg h2]; rw [if_neg h2] at wk
      by_cases h9 : k = 9
      · rw [if_pos h9]; rw [if_pos h9] at wk; simp only [tot]; omega
      · rw [if_neg h9]; rw [if_neg h9] at wk
        by_cases h8 : k = 8
        · rw [if_pos h8]; rw [if_pos h8] at wk; simp only [tot]; omega
        · rw [if_neg h8]; rw [if_neg h8] at wk; simp only [tot]; omega
theorem cz_small (k c : Int) : Small (cz k c) := by
  intro x hx
  unfold cz at hx
  repeat' split at hx
  all_goals simp at hx
  all_goals omega
theorem cz_len (k c : Int) (h : 1 ≤ c ∧ c ≤ 8) : (cz k c).length ≤ 9 := by
  unfold cz
  repeat' split
  all_goals simp
  all_goals omega
theorem and16 (x : Int) : 0 ≤ bits .and .i64 x 65535 ∧ bits .and .i64 x 65535 ≤ 65535 := by
  have h : bits .and .i64 x 65535 = IntKind.i64.wrap ((BitVec.ofInt 64 x &&& BitVec.ofInt 64 65535).toNat : Int) := rfl
  have h2 : (BitVec.ofInt 64 x &&& BitVec.ofInt 64 65535).toNat ≤ 65535 := by
    rw [BitVec.toNat_and, show (BitVec.ofInt 64 65535).toNat = 65535 from by decide]
    exact Nat.and_le_right
  rw [h, IntKind.wrap_i64]
  omega
theorem split_at (l : List Int) (k : Nat) (h : k < l.length) : l = l.take k ++ rd l k :: l.drop (k + 1) := by
  have := List.take_append_drop k l
  rw [List.drop_eq_getElem_cons h] at this
  simp [rd, h]

theorem stepR (c : Int) (h : 1 ≤ c ∧ c ≤ 8) (picks box : List Int) (most n p : Int) (m : Nat) (hm : 2000 ≤ m) (hb : Small box) (h0 : 0 < box.length) (hn : 0 ≤ n) (hmost : most ≤ 1040) (hp : 0 ≤ p) (hp2 : p ≤ 65535) (hinv : tot c box + n ≤ most)
    (hk : ∀ rest : List Int, Small rest → tot c rest < tot c box → allotmentlaw29_RoundEnds.l0 m c picks rest most (n + 1) = some true) : allotmentlaw29_RoundEnds.j2 (m + 1) c picks box most n p = some true := by
  have hlen := tot_len c h box
  have k0 := Int.tmod_nonneg (box.length : Int) hp
  have k1 := Int.tmod_lt_of_pos p (b := (box.length : Int)) (by omega)
  have hw := Aside0.mk (ww (Int.tmod p (box.length : Int) + 1) (by omega) (by omega))
  simp only [allotmentlaw29_RoundEnds.j2, hw.out]
  clear hw
  generalize Int.tmod p (box.length : Int) = z at *
  obtain ⟨k, rfl⟩ := Int.eq_ofNat_of_zero_le k0
  have hkl : k < box.length := by omega
  have hs := split_at box k hkl
  have htot : tot c box = tot c (box.take k) + (wF (rd box k) c + tot c (box.drop (k + 1))) := by
    have h2 := congrArg (tot c) hs
    rw [tot_append] at h2
    exact h2
  have hcf := causes_f (rd box k) c h m (by omega)
  have hct := cz_tot (rd box k) c h
  have hcl := cz_len (rd box k) c h
  have hcs := cz_small (rd box k) c
  have e1 : ((k : Int) + 1).toNat = k + 1 := by omega
  simp only [Int.toNat_natCast, e1]
  clear e1 hs
  have l1 : (box.take k).length ≤ box.length := List.length_take_le' ..
  have l2 : (box.drop (k + 1)).length ≤ box.length := by rw [List.length_drop]; omega
  have hbl : (box.length : Int) ≤ 1040 := by omega
  have a1 : (box.take k ++ box.drop (k + 1)).length = (box.take k).length + (box.drop (k + 1)).length := List.length_append
  have a2 : (([] : List Int) ++ box.take k).length = (box.take k).length := by simp
  have g1 : ¬ (box.length : Int) = 0 := by omega
  have g2 : (0 : Int) ≤ (k : Int) := by omega
  have g3 : (k : Int) < (box.length : Int) := by omega
  have g4 : (k : Int) ≤ (box.length : Int) := by omega
  have g5 : ([] : List Int).length + (box.take k).length < 140737488355328 := by rw [List.length_nil]; omega
  have g6 : (0 : Int) ≤ (k : Int) + 1 := by omega
  have g7 : (k : Int) + 1 ≤ (box.length : Int) := by omega
  have g8 : (([] : List Int) ++ box.take k).length + (box.drop (k + 1)).length < 140737488355328 := by rw [a2]; omega
  refine ineg g1 (ip g2 (ip g3 (isome (ip g4 (isome (ip g5 (isome (ip g6 (ip g7 (isome (ip g8 (isome (ib hcf ?_)))))))))))))
  clear hcf g1 g2 g3 g4 g5 g6 g7 g8 a2
  rw [List.nil_append]
  generalize cz (rd box k) c = q at *
  have hw2 := Aside0.mk (ww ((q.length : Int) + 1) (by omega) (by omega))
  have j0 := Int.tmod_nonneg ((q.length : Int) + 1) hp
  have j1 := Int.tmod_lt_of_pos p (b := (q.length : Int) + 1) (by omega)
  simp only [hw2.out]
  clear hw2
  generalize Int.tmod p ((q.length : Int) + 1) = y at *
  have hw3 := Aside0.mk (ww ((q.length : Int) - y) (by omega) (by omega))
  have hw4 := Aside0.mk (ww (n + 1) (by omega) (by have := (tot_range c box).1; omega))
  simp only [hw3.out, hw4.out]
  clear hw3 hw4
  obtain ⟨j, hj⟩ := Int.eq_ofNat_of_zero_le (show 0 ≤ (q.length : Int) - y by omega)
  rw [hj, Int.toNat_natCast]
  have hsm : Small (box.take k ++ box.drop (k + 1) ++ q.take j) := by
    intro x hx
    rcases List.mem_append.1 hx with hx | hx
    · rcases List.mem_append.1 hx with hx | hx
      · exact hb x (List.mem_of_mem_take hx)
      · exact hb x (List.mem_of_mem_drop hx)
    · exact hcs x (List.mem_of_mem_take hx)
  have ht1 : tot c (box.take k ++ box.drop (k + 1) ++ q.take j) = tot c (box.take k) + tot c (box.drop (k + 1)) + tot c (q.take j) := by rw [tot_append, tot_append]
  have ht2 := tot_take c q j
  have hlt : tot c (box.take k ++ box.drop (k + 1) ++ q.take j) < tot c box := by omega
  have hl0 := tot_len c h (box.take k ++ box.drop (k + 1) ++ q.take j)
  have l3 : (q.take j).length ≤ q.length := List.length_take_le' ..
  have t0 := (tot_range c (box.take k ++ box.drop (k + 1) ++ q.take j)).1
  have hfin := hk _ hsm hlt
  have b1 := bare_f box (by omega) m (by omega)
  have b2 := bare_f _ (show (box.take k ++ box.drop (k + 1) ++ q.take j).length ≤ 1000000 by omega) m (by omega)
  have s1 := sum_f c box hb (by omega)
  have s2 := sum_f c _ hsm (by omega)
  have hf : round_Falls.f (box.map M) ((box.take k ++ box.drop (k + 1) ++ q.take j).map M) c = some true := by
    unfold round_Falls.f
    rw [s1, s2]
    simp only [Option.bind_some]
    rw [decide_eq_true hlt]
  have g1 : ¬ (q.length : Int) + 1 = 0 := by omega
  have g2 : (0 : Int) ≤ (j : Int) := by omega
  have g3 : (j : Int) ≤ (q.length : Int) := by omega
  have g4 : (box.take k ++ box.drop (k + 1)).length + (q.take j).length < 140737488355328 := by omega
  have g5 : ¬ n + 1 > most := by omega
  exact ineg g1 (ip g2 (ip g3 (isome (ip g4 (isome (ib b1 (ib b2 (ib hf (ip rfl (ineg g5 hfin))))))))))

theorem ends (c : Int) (h : 1 ≤ c ∧ c ≤ 8) (picks : List Int) (most : Int) (hmost : most ≤ 1040) (hpl : picks.length ≤ 300) : ∀ (d k : Nat) (box : List Int) (n : Int), Small box → 0 ≤ n → tot c box + n ≤ most → tot c box ≤ d → allotmentlaw29_RoundEnds.l0 (2000 + k + 2 * d + 1) c picks box most n = some true := by
  intro d
  induction d with
  | zero =>
    intro k box n hb hn hi hd
    have hlen := tot_len c h box
    have h0 : box.length = 0 := by omega
    generalize 2000 + k + 2 * 0 = m
    simp only [allotmentlaw29_RoundEnds.l0]
    exact ineg (by omega) (by rw [wakes_f]; rfl)
  | succ d ih =>
    intro k box n hb hn hi hd
    by_cases h0 : box.length = 0
    · generalize 2000 + k + 2 * (d + 1) = m
      simp only [allotmentlaw29_RoundEnds.l0]
      exact ineg (by omega) (by rw [wakes_f]; rfl)
    · have hst : ∀ p : Int, 0 ≤ p → p ≤ 65535 → allotmentlaw29_RoundEnds.j2 (2000 + k + 2 * d + 1 + 1) c picks box most n p = some true := fun p p0 p1 =>
        stepR c h picks box most n p (2000 + k + 2 * d + 1) (by omega) hb (by omega) hn hmost p0 p1 hi (fun rest hr hlt => ih k rest (n + 1) hr (by omega) (by omega) (by omega))
      rw [show 2000 + k + 2 * (d + 1) + 1 = (2000 + k + 2 * d + 1 + 1) + 1 from by omega]
      generalize 2000 + k + 2 * d + 1 + 1 = m at *
      simp only [allotmentlaw29_RoundEnds.l0]
      refine ip (by omega) ?_
      by_cases hp : (picks.length : Int) > 0
      · have k0 := Int.tmod_nonneg (picks.length : Int) hn
        have k1 := Int.tmod_lt_of_pos n (b := (picks.length : Int)) hp
        have k2 := and16 (rd picks (Int.tmod n (picks.length : Int)))
        exact ip hp (ineg (by omega) (ip k0 (ip k1 (hst _ k2.1 k2.2))))
      · exact ineg hp (hst 0 (by omega) (by omega))

theorem RoundEnds : allotmentlaw29_RoundEnds.Pure := by
  intro a c picks _ _ ha0 hc _ _ _
  have ha := wf_small ha0
  refine ⟨(2000 + 3 + 2 * 1040 + 1) + 1, ?_⟩
  have hyes : ∀ K, allotmentlaw29_RoundEnds.j0 (K + 1) a c picks true = some true := by
    intro K
    simp only [allotmentlaw29_RoundEnds.j0, if_true, wakes_f]
    rfl
  unfold allotmentlaw29_RoundEnds.f
  by_cases h1 : (a.length : Int) > 40
  · exact ip h1 (hyes _)
  · refine ineg h1 ?_
    by_cases h2 : c < 1
    · exact ip h2 (hyes _)
    · refine ineg h2 ?_
      by_cases h3 : c > 8
      · exact ip h3 (hyes _)
      · refine ineg h3 ?_
        by_cases h4 : (picks.length : Int) > 300
        · rw [decide_eq_true h4]; exact hyes _
        · rw [decide_eq_false h4]
          have hc : 1 ≤ c ∧ c ≤ 8 := by omega
          have hr := tot_range c a
          have he := ends c hc picks (tot c a) (by omega) (by omega) 1040 3 a 0 ha (by omega) (by omega) (by omega)
          have s1 := sum_f c a ha (by omega)
          have b1 := bare_f a (by omega) (2000 + 3 + 2 * 1040 + 1) (by omega)
          generalize 2000 + 3 + 2 * 1040 + 1 = m at *
          simp only [allotmentlaw29_RoundEnds.j0, Bool.false_eq_true, if_false, Option.bind_some, List.nil_append]
          exact ip (by simp only [List.length_nil]; omega) (ib b1 (ib s1 he))

end Go.Proofs.Ytgdppnijjhbgfaa.Pure
