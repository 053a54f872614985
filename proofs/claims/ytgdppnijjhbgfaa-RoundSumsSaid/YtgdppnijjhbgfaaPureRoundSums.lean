/- What two mailboxes weigh together is what both weigh, in any order, and they may cause no less than the first, for up to 500 messages each and any number of clients. -/
import Derived.Test.YtgdppnijjhbgfaaPr7 -- home allotmentlaw29_RoundSums.Pure
import Derived.Test.YtgdppnijjhbgfaaRoundW
namespace Go.Proofs.Ytgdppnijjhbgfaa.Pure
open Go.RowKit Go.Proofs.Ytgdppnijjhbgfaa.Pr Go.Proofs.YtgdppnijjhbgfaaW.PrintWords Go.Proofs.YtgdppnijjhbgfaaW.PrintLast Go.Proofs.Ytgdppnijjhbgfaa.RoundW Go.Proofs.Ytgdppnijjhbgfaa.Round
set_option linter.unusedVariables false
set_option linter.unusedSimpArgs false

theorem RoundSums : allotmentlaw29_RoundSums.Pure := by
  intro a b c _ _ ha0 _ _ hb0 hc
  have ha := wf_small ha0
  have hb := wf_small hb0
  refine ⟨2000 + 1, ?_⟩
  have hyes : allotmentlaw29_RoundSums.j0 (2000 + 1) a b c true = some true := by
    simp only [allotmentlaw29_RoundSums.j0, if_true, wakes_f]
    rfl
  unfold allotmentlaw29_RoundSums.f
  by_cases h1 : (a.length : Int) > 500
  · exact ip h1 hyes
  · refine ineg h1 ?_
    by_cases h2 : (b.length : Int) > 500
    · rw [decide_eq_true h2]; exact hyes
    · rw [decide_eq_false h2]
      generalize hK : (2000 : Nat) = K
      simp only [allotmentlaw29_RoundSums.j0]
      subst hK
      have hsm : ∀ x y : List Int, Small x → Small y → Small (x ++ y) := fun x y hx hy z hz => by
        rcases List.mem_append.1 hz with h | h
        · exact hx z h
        · exact hy z h
      have sab := sum_f c (a ++ b) (hsm a b ha hb) (by rw [List.length_append]; omega)
      have sba := sum_f c (b ++ a) (hsm b a hb ha) (by rw [List.length_append]; omega)
      have sa := sum_f c a ha (by omega)
      have sb := sum_f c b hb (by omega)
      have r1 := tot_range c a
      have r2 := tot_range c b
      have r3 := tot_append c a b
      have r4 := tot_append c b a
      have hl1 : (a.map M).length = a.length := List.length_map _
      have hl2 : (b.map M).length = b.length := List.length_map _
      have mostf : ∀ l : List Int, Small l → l.length ≤ 1000 → round_Most.f (l.map M) c = some (if 1 ≤ c ∧ c ≤ 8 then tot c l + c * (2 + 3 * c + 2 + 2) else 0) := by
        intro l hs hn
        have s1 := sum_f c l hs (by omega)
        have s2 := sum_f c [5, 2, 9] (by intro x hx; simp at hx; omega) (by decide)
        have r := tot_range c l
        unfold round_Most.f round_there.f
        by_cases g : 1 ≤ c ∧ c ≤ 8
        · have t2 : tot c [5, 2, 9] = 2 + 3 * c + 2 + 2 := by
            simp only [tot]
            rw [wF_in 5 c g, wF_in 2 c g, wF_in 9 c g]
            simp
            omega
          rw [t2] at s2
          have g1 : c ≥ 1 := g.1
          rw [if_pos g1, decide_eq_true g.2]
          simp only [Option.bind_some, if_true, s1]
          rw [if_pos g]
          have c8 : c = 1 ∨ c = 2 ∨ c = 3 ∨ c = 4 ∨ c = 5 ∨ c = 6 ∨ c = 7 ∨ c = 8 := by omega
          have e1 : wrap64 (c * (2 + 3 * c + 2 + 2)) = c * (2 + 3 * c + 2 + 2) := ww _ (by rcases c8 with rfl | rfl | rfl | rfl | rfl | rfl | rfl | rfl <;> decide) (by rcases c8 with rfl | rfl | rfl | rfl | rfl | rfl | rfl | rfl <;> decide)
          have e2 : wrap64 (tot c l + c * (2 + 3 * c + 2 + 2)) = tot c l + c * (2 + 3 * c + 2 + 2) := ww _ (by rcases c8 with rfl | rfl | rfl | rfl | rfl | rfl | rfl | rfl <;> omega) (by rcases c8 with rfl | rfl | rfl | rfl | rfl | rfl | rfl | rfl <;> omega)
          refine ib s2 ?_
          rw [e1, e2]
        · have hb : (if c ≥ 1 then some (decide (c ≤ 8)) else some false) = some false := by
            by_cases g1 : c ≥ 1
            · rw [if_pos g1, decide_eq_false (by omega)]
            · rw [if_neg g1]
          rw [hb, if_neg g]
          simp
      have m1 := mostf (a ++ b) (hsm a b ha hb) (by rw [List.length_append]; omega)
      have m2 := mostf a ha (by omega)
      rw [List.map_append] at sab sba m1
      have hw : wrap64 (tot c a + tot c b) = tot c a + tot c b := ww _ (by omega) (by omega)
      rw [bare_f a (by omega) _ (by omega), bare_f b (by omega) _ (by omega)]
      simp only [Option.bind_some, Bool.false_eq_true, if_false, List.nil_append]
      refine ip (by simp; omega) (ip (by simp; omega) (ip (by simp; omega) (ip (by simp; omega) ?_)))
      refine ib sab (ib sa (ib sb (ip (by rw [hw]; omega) (ib sab (ib sba (ip (by omega) (ib m1 (ib m2 (ip ?_ ?_)))))))))
      · split <;> omega
      · rw [wakes_f]; rfl

end Go.Proofs.Ytgdppnijjhbgfaa.Pure
