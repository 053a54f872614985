import Derived.Test.YtpjibokaeefhiaaOe
/-! The references of leases: Of, Remove. -/
namespace Go.Proofs.Ytpjibokaeefhiaa
open Go.Proofs.Ytpjibokaeefhiaa.Tw
theorem filter_take {so : Lease → Bool} {l : List Lease} {j : Nat} {x : Lease} (hx : l[j]? = some x) : (l.take (j + 1)).filter so = (l.take j).filter so ++ (if so x then [x] else []) := by
  rw [List.take_add_one, hx, List.filter_append]
  simp only [Option.toList_some]
  cases hs : so x <;> simp [hs]
theorem filter_le {so : Lease → Bool} {l : List Lease} {j : Nat} : ((l.take j).filter so).length ≤ j := Nat.le_trans (List.length_filter_le _ _) (by simp; omega)
set_option maxHeartbeats 1000000 in
theorem Of54 (A : Ar) (F : EmL) {P : Program} (hP : P = Try.prog) (l : List Lease) (hl : l.length ≤ 1000000) (id : Int) : TPure P 54 [.sl 5 (F.l.l l), .int .i64 id] (.sl 5 (F.l.l (l.filter fun x => decide (x.client = id)))) := by
  refine TPure.ofE A T0 (T0_ok hP) (hP ▸ Try.func54) rfl _ rfl (by simp) ?_
  have hll := F.l.len l
  obtain ⟨so, hso⟩ : ∃ so : Lease → Bool, so = fun x => decide (x.client = id) := ⟨_, rfl⟩
  rw [← hso]
  obtain ⟨r, hr⟩ : ∃ r, r = l.filter so := ⟨_, rfl⟩
  rw [← hr]
  cbv
  ((try cbv) <;> (repeat ((with_reducible refine EW.of ?_); cbv)))
  obtain ⟨S, hS⟩ : ∃ S : LI (Nat × Option (Nat × List Lease)), S = ⟨fun x => [(6, .int .i64 x.1), (5, rowL 0 x.2), (0, .sl 5 (F.l.l l)), (1, .int .i64 id)], fun x => stL F [] x.2, fun x => x.1 ≤ l.length ∧ invL ((l.take x.1).filter so) x.2, fun x => l.length - x.1⟩ := ⟨_, rfl⟩
  refine TW.loopM A (T0_ok hP) S _ rfl (0, none) ?_ ?_ ?_
  · rw [hS]; exact ⟨Nat.zero_le _, rfl⟩
  · rw [hS]; cbv; (repeat (first | exact trivial | refine And.intro (Emb.Pur _ _) ?_ | refine And.intro rfl ?_ | refine And.intro (Pur.mk rfl) ?_ | refine And.intro (Pur.mk (by assumption)) ?_))
  rintro ⟨j, o⟩ hj l1 L1 e1 e2
  rw [hS] at hj e1 e2
  obtain ⟨hj, ho⟩ := hj
  dsimp only at hj ho e1 e2
  subst e1
  obtain ⟨oo, hoe⟩ : ∃ oo, oo = o := ⟨_, rfl⟩
  have hoo : invL ((l.take j).filter so) oo := hoe ▸ ho
  cases o with
  | none =>
    dsimp only [stL, rowL, invL] at e2 ho ⊢
    subst e2
    cbv
    ((try cbv) <;> (repeat ((with_reducible refine EW.of ?_); cbv)))
    refine bsplit (fun h => ?_) (fun h => ?_)
    · have h : j < (F.l.l l).length := lt_nt h rfl (A.ok_len _)
      obtain ⟨x, hx⟩ : ∃ x, l[j]? = some x := ⟨_, List.getElem?_eq_getElem (by omega)⟩
      have htk := filter_take (so := so) hx
      have hlk := filter_le (so := so) (l := l) (j := j)
      obtain ⟨x1, x2, x3, x4, x5⟩ := x
      have hs : so ⟨x1, x2, x3, x4, x5⟩ = decide (x3 = id) := by rw [hso]
      rw [hs] at htk
      ((try cbv) <;> (repeat ((with_reducible refine EW.of ?_); cbv)))
      refine ⟨j, _, rfl, F.get hx, ?_⟩
      cbv
      ((try cbv) <;> (repeat ((with_reducible refine EW.of ?_); cbv)))
      refine bsplit (fun h => ?_) (fun h => ?_)
      · have h : x3 = id := eq_t h rfl rfl
        rw [if_pos (by simpa using h)] at htk
        obtain ⟨done1, hd1⟩ : ∃ d, d = (l.take (j + 1)).filter so := ⟨_, rfl⟩
        obtain ⟨q, hq⟩ : ∃ q, q = done1.length := ⟨_, rfl⟩
        ((try cbv) <;> (repeat ((with_reducible refine EW.of ?_); cbv)))
        refine ⟨j, _, rfl, F.get hx, ?_⟩
        cbv
        ((try cbv) <;> (repeat ((with_reducible refine EW.of ?_); cbv)))
        rw [ho] at htk
        refine ⟨⟨rfl⟩, q, F.l.l done1, by rw [hq, hd1, htk]; rfl, by rw [hd1, htk]; simp only [List.nil_append, F.l.cons, F.row, F.l.nil]; rfl, Nat.zero_le _, ?_, ?_, ?_⟩
        · rw [hq, hd1, htk]; simp
        · rw [hq, hd1, htk]; simp
        cbv
        ((try cbv) <;> (repeat ((with_reducible refine EW.of ?_); cbv)))
        refine LM.of (j + 1, some (q, done1)) rfl ?_ ?_ ?_
        · rw [hS]; exact ⟨by show j + 1 ≤ _; omega, hq, hd1⟩
        · rw [hS]; show l.length - (j + 1) < l.length - j; omega
        · rw [hS]; (cbv; (repeat (first | exact trivial | refine And.intro (Emb.Pur _ _) ?_ | refine And.intro rfl ?_ | refine And.intro (Pur.mk rfl) ?_ | refine And.intro (Pur.mk (by assumption)) ?_)); refine And.intro (inc_eq A (by omega)) ?_; (repeat (first | exact trivial | refine And.intro (Emb.Pur _ _) ?_ | refine And.intro rfl ?_ | refine And.intro (Pur.mk rfl) ?_ | refine And.intro (Pur.mk (by assumption)) ?_)))
      · have h : x3 ≠ id := eq_f h rfl rfl
        rw [if_neg (by simpa using h), List.append_nil] at htk
        ((try cbv) <;> (repeat ((with_reducible refine EW.of ?_); cbv)))
        refine LM.of (j + 1, oo) rfl ?_ ?_ ?_
        · rw [hS]; exact ⟨by show j + 1 ≤ _; omega, by rw [htk]; exact hoo⟩
        · rw [hS]; show l.length - (j + 1) < l.length - j; omega
        · rw [hS, hoe]; (cbv; (repeat (first | exact trivial | refine And.intro (Emb.Pur _ _) ?_ | refine And.intro rfl ?_ | refine And.intro (Pur.mk rfl) ?_ | refine And.intro (Pur.mk (by assumption)) ?_)); refine And.intro (inc_eq A (by omega)) ?_; (repeat (first | exact trivial | refine And.intro (Emb.Pur _ _) ?_ | refine And.intro rfl ?_ | refine And.intro (Pur.mk rfl) ?_ | refine And.intro (Pur.mk (by assumption)) ?_)))
    · have h : (F.l.l l).length ≤ j := lt_nf h rfl (A.ok_len _)
      rw [List.take_of_length_le (by omega), ← hr] at ho
      ((try cbv) <;> (repeat ((with_reducible refine EW.of ?_); cbv)))
      subst ho
      exact ⟨F.l.nil.symm, trivial⟩
  | some x =>
    obtain ⟨m, done⟩ := x
    dsimp only [stL, rowL, invL] at e2 ho ⊢
    obtain ⟨hm, ho⟩ := ho
    subst e2
    cbv
    ((try cbv) <;> (repeat ((with_reducible refine EW.of ?_); cbv)))
    refine bsplit (fun h => ?_) (fun h => ?_)
    · have h : j < (F.l.l l).length := lt_nt h rfl (A.ok_len _)
      obtain ⟨x, hx⟩ : ∃ x, l[j]? = some x := ⟨_, List.getElem?_eq_getElem (by omega)⟩
      have htk := filter_take (so := so) hx
      have hlk := filter_le (so := so) (l := l) (j := j)
      obtain ⟨x1, x2, x3, x4, x5⟩ := x
      have hs : so ⟨x1, x2, x3, x4, x5⟩ = decide (x3 = id) := by rw [hso]
      rw [hs] at htk
      ((try cbv) <;> (repeat ((with_reducible refine EW.of ?_); cbv)))
      refine ⟨j, _, rfl, F.get hx, ?_⟩
      cbv
      ((try cbv) <;> (repeat ((with_reducible refine EW.of ?_); cbv)))
      refine bsplit (fun h => ?_) (fun h => ?_)
      · have h : x3 = id := eq_t h rfl rfl
        rw [if_pos (by simpa using h)] at htk
        obtain ⟨done1, hd1⟩ : ∃ d, d = (l.take (j + 1)).filter so := ⟨_, rfl⟩
        obtain ⟨q, hq⟩ : ∃ q, q = done1.length := ⟨_, rfl⟩
        ((try cbv) <;> (repeat ((with_reducible refine EW.of ?_); cbv)))
        refine ⟨j, _, rfl, F.get hx, ?_⟩
        cbv
        ((try cbv) <;> (repeat ((with_reducible refine EW.of ?_); cbv)))
        have hdl := F.l.len done
        rw [← ho] at htk hlk
        have hq1 : q = m + 1 := by rw [hq, hd1, htk, hm]; simp
        refine ⟨⟨rfl⟩, q, F.l.l done1, hq1, by rw [hd1, htk]; simp only [F.l.app, F.l.cons, F.row, F.l.nil]; rw [List.take_of_length_le (show (F.l.l done).length ≤ m by omega)], (show m ≤ (F.l.l done).length by omega), by omega, by omega, ?_⟩
        cbv
        ((try cbv) <;> (repeat ((with_reducible refine EW.of ?_); cbv)))
        refine LM.of (j + 1, some (q, done1)) rfl ?_ ?_ ?_
        · rw [hS]; exact ⟨by show j + 1 ≤ _; omega, hq, hd1⟩
        · rw [hS]; show l.length - (j + 1) < l.length - j; omega
        · rw [hS]; (cbv; (repeat (first | exact trivial | refine And.intro (Emb.Pur _ _) ?_ | refine And.intro rfl ?_ | refine And.intro (Pur.mk rfl) ?_ | refine And.intro (Pur.mk (by assumption)) ?_)); refine And.intro (inc_eq A (by omega)) ?_; (repeat (first | exact trivial | refine And.intro (Emb.Pur _ _) ?_ | refine And.intro rfl ?_ | refine And.intro (Pur.mk rfl) ?_ | refine And.intro (Pur.mk (by assumption)) ?_)))
      · have h : x3 ≠ id := eq_f h rfl rfl
        rw [if_neg (by simpa using h), List.append_nil] at htk
        ((try cbv) <;> (repeat ((with_reducible refine EW.of ?_); cbv)))
        refine LM.of (j + 1, oo) rfl ?_ ?_ ?_
        · rw [hS]; exact ⟨by show j + 1 ≤ _; omega, by rw [htk]; exact hoo⟩
        · rw [hS]; show l.length - (j + 1) < l.length - j; omega
        · rw [hS, hoe]; (cbv; (repeat (first | exact trivial | refine And.intro (Emb.Pur _ _) ?_ | refine And.intro rfl ?_ | refine And.intro (Pur.mk rfl) ?_ | refine And.intro (Pur.mk (by assumption)) ?_)); refine And.intro (inc_eq A (by omega)) ?_; (repeat (first | exact trivial | refine And.intro (Emb.Pur _ _) ?_ | refine And.intro rfl ?_ | refine And.intro (Pur.mk rfl) ?_ | refine And.intro (Pur.mk (by assumption)) ?_)))
    · have h : (F.l.l l).length ≤ j := lt_nf h rfl (A.ok_len _)
      rw [List.take_of_length_le (by omega), ← hr] at ho
      ((try cbv) <;> (repeat ((with_reducible refine EW.of ?_); cbv)))
      subst ho
      exact ⟨F.l.cut hm, F.l.Pur _, trivial⟩
end Go.Proofs.Ytpjibokaeefhiaa
