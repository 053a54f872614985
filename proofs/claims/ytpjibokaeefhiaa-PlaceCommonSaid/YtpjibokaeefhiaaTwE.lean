import Derived.Test.YtpjibokaeefhiaaTwD
/-! Cuts of slices and strings. -/
namespace Go.Proofs.Ytpjibokaeefhiaa.Tw
open Go.RowKit
set_option linter.unusedVariables false
set_option linter.unusedSimpArgs false
/-- The cells of a part of a row that is never written. -/
theorem cut_cells {w : World} {I : Nat → Prop} {ρ : List Nat} {a : Option Addr} {A : Addr} {wd : Nat} {els : List AV} {vs : Nat → Nat → Value} (l h k : Nat) (hlh : l ≤ h) (hk : l < h → k ≠ l)
    (ha : els = [] ∨ (a = some A ∧ A.spot = none ∧ I A.block)) (hh : h ≤ els.length) (hw : ∀ e ∈ els, e.cells.length = wd)
    (hc : ∀ i j, i < els.length → j < wd → w.cell? ⟨A.block, A.off + (i * wd + j), none⟩ = some (vs i j))
    (hr : ∀ (i : Nat) (e : AV) (j : Nat) (c : AV), els[i]? = some e → e.cells[j]? = some c → Rep w I ρ (vs i j) c) :
    ((els.take h).drop l = [] ∨ ((if k = l then a else a.map (·.add (l * wd))) = some ⟨A.block, A.off + l * wd, none⟩ ∧ (⟨A.block, A.off + l * wd, none⟩ : Addr).spot = none ∧ I A.block)) ∧ (h - l = ((els.take h).drop l).length) ∧ (∀ e ∈ (els.take h).drop l, e.cells.length = wd) ∧
    (∀ i j, i < ((els.take h).drop l).length → j < wd → w.cell? ⟨A.block, A.off + l * wd + (i * wd + j), none⟩ = some (vs (l + i) j)) ∧
    (∀ (i : Nat) (e : AV) (j : Nat) (c : AV), ((els.take h).drop l)[i]? = some e → e.cells[j]? = some c → Rep w I ρ (vs (l + i) j) c) := by
  have hlen : ((els.take h).drop l).length = h - l := by simp; omega
  refine ⟨?_, hlen.symm, fun e he => hw e (List.mem_of_mem_take (List.mem_of_mem_drop he)), fun i j hi hj => ?_, fun i e j c he hc' => ?_⟩
  · by_cases e : l < h
    · refine .inr ?_
      rcases ha with rfl | ⟨rfl, hs, hI⟩
      · simp at hh; omega
      · rw [if_neg (hk e)]
        exact ⟨by rw [Option.map_some, add_none hs], rfl, hI⟩
    · left
      exact List.eq_nil_of_length_eq_zero (by omega)
  · have := hc (l + i) j (by omega) hj
    rw [Nat.add_mul] at this
    rwa [show A.off + l * wd + (i * wd + j) = A.off + (l * wd + i * wd + j) from by omega]
  · rw [List.getElem?_drop, List.getElem?_take] at he
    split at he
    · exact hr _ e j c he hc'
    · cases he
theorem bound_lo {x : Option AV} {n : Nat} {P : Program} {w : World} {I : Nat → Prop} {ρ : List Nat} {v : Option Value} {d : Nat}
    (h : (v = none ∧ x = none ∧ n = d) ∨ ∃ u, v = some u ∧ x.isSome = true ∧ ∀ (y : Nat) (code : BoundsCode), n ≤ y → (Instr.sliceBound u y code).run P w = .ok n w) :
    (v = none ∧ n = d) ∨ ∃ u, v = some u ∧ ∀ (y : Nat) (code : BoundsCode), n ≤ y → (Instr.sliceBound u y code).run P w = .ok n w :=
  h.imp (fun ⟨a, _, b⟩ => ⟨a, b⟩) (fun ⟨u, a, _, b⟩ => ⟨u, a, b⟩)
theorem bound_some {x : Option AV} {n : Nat} {P : Program} {w : World} {v : Option Value} {d : Nat} (hx : x.isSome = true)
    (h : (v = none ∧ x = none ∧ n = d) ∨ ∃ u, v = some u ∧ x.isSome = true ∧ ∀ (y : Nat) (code : BoundsCode), n ≤ y → (Instr.sliceBound u y code).run P w = .ok n w) :
    ∃ u, v = some u ∧ ∀ (y : Nat) (code : BoundsCode), n ≤ y → (Instr.sliceBound u y code).run P w = .ok n w := by
  rcases h with ⟨_, h, _⟩ | ⟨u, a, _, b⟩
  · subst h; cases hx
  · exact ⟨u, a, b⟩
theorem aslice_ok {P : Program} {t : TypeId} {x : AV} {lo hi mx : Option AV} {K : AV → Prop} (h : aslice P t x lo hi mx K) :
    ∃ av, K av ∧ ∀ (w : World) (I : Nat → Prop) (ρ : List Nat) (u : Value) (l h m : Option Value), Rep w I ρ u x → BoundRel w I ρ l lo → BoundRel w I ρ h hi → BoundRel w I ρ m mx → ∃ r, (Instr.sliceAt t u l h m).run P w = .ok r w ∧ Rep w I ρ r av := by
  unfold aslice at h
  split at h
  · rename_i s ht
    obtain ⟨l, h, hl⟩ := abound_ok h
    obtain ⟨hh, h, hhh⟩ := abound_ok h
    obtain ⟨h1, h2, h⟩ := h
    refine ⟨_, h, fun w I ρ u bl bh bm hu r1 r2 r3 => ⟨_, ?_, .str _⟩⟩
    have := hu.str_inv
    subst this
    cases bm with
    | some v => exact r3.elim
    | none =>
      rcases bound_lo (I := I) (ρ := ρ) (hl P w I ρ bl r1) with ⟨rfl, rfl⟩ | ⟨u, rfl, hu1⟩ <;> rcases bound_lo (I := I) (ρ := ρ) (hhh P w I ρ bh r2) with ⟨rfl, rfl⟩ | ⟨v, rfl, hv1⟩
      · simp [Instr.sliceAt, Instr.slice, run_underlying ht, Instr.sliceBounds]
      · simp [Instr.sliceAt, Instr.slice, run_underlying ht, Instr.sliceBounds, hv1 _ _ h2]
      · simp [Instr.sliceAt, Instr.slice, run_underlying ht, Instr.sliceBounds, hu1 _ _ h1]
      · simp [Instr.sliceAt, Instr.slice, run_underlying ht, Instr.sliceBounds, hv1 _ _ h2, hu1 _ _ h1]
  · rename_i e wd els ht
    obtain ⟨hi', rfl, h⟩ := h
    obtain ⟨l, h, hl⟩ := abound_ok h
    obtain ⟨hh, h, hhh⟩ := abound_ok h
    obtain ⟨h1, h2, h⟩ := h
    refine ⟨_, h, fun w I ρ u bl bh bm hu r1 r2 r3 => ?_⟩
    cases bm with
    | some v => exact r3.elim
    | none =>
      cases hu with
      | sl a A n c _ _ vs hn hcap ha hw hc hr =>
        subst hn
        obtain ⟨c1, c2, c3, c4, c5⟩ := cut_cells l hh c h1 (by omega) ha h2 hw hc hr
        exact ⟨_, run_slice2 ht hi' w a els.length c l hh _ _ h1 h2 hcap (bound_lo (I := I) (ρ := ρ) (hl P w I ρ bl r1)) (bound_lo (I := I) (ρ := ρ) (hhh P w I ρ bh r2)),
          .sl _ _ _ _ _ _ (fun i j => vs (l + i) j) c2 (by omega) c1 c3 c4 c5⟩
  · rename_i e wd els m0 ht
    obtain ⟨hi', rfl, hs, h⟩ := h
    obtain ⟨l, h, hl⟩ := abound_ok h
    obtain ⟨hh, h, hhh⟩ := abound_ok h
    obtain ⟨mm, h, hmm⟩ := abound_ok h
    obtain ⟨h1, rfl, h2, h⟩ := h
    refine ⟨_, h, fun w I ρ u bl bh bm hu r1 r2 r3 => ?_⟩
    obtain ⟨u2, rfl, q2⟩ := bound_some hs (hhh P w I ρ bh r2)
    obtain ⟨u3, rfl, q3⟩ := bound_some rfl (hmm P w I ρ bm r3)
    cases hu with
    | sl a A n c _ _ vs hn hcap ha hw hc hr =>
      subst hn
      obtain ⟨c1, c2, c3, c4, c5⟩ := cut_cells l hh hh h1 (by omega) ha h2 hw hc hr
      exact ⟨_, run_slice3 ht hi' w a els.length c l hh hh _ _ _ h1 (Nat.le_refl _) (by omega) (bound_lo (I := I) (ρ := ρ) (hl P w I ρ bl r1)) q2 q3,
        .slt _ _ _ _ _ (fun i j => vs (l + i) j) c2 c1 c3 c4 c5⟩
  · rename_i e wd els ht
    obtain ⟨hi', rfl, h⟩ := h
    obtain ⟨l, h, hl⟩ := abound_ok h
    obtain ⟨hh, h, hhh⟩ := abound_ok h
    obtain ⟨h1, h2, h⟩ := h
    refine ⟨_, h, fun w I ρ u bl bh bm hu r1 r2 r3 => ?_⟩
    cases bm with
    | some v => exact r3.elim
    | none =>
      cases hu with
      | slt a A n _ _ vs hn ha hw hc hr =>
        subst hn
        obtain ⟨c1, c2, c3, c4, c5⟩ := cut_cells l hh els.length h1 (by omega) ha h2 hw hc hr
        exact ⟨_, run_slice2 ht hi' w a els.length els.length l hh _ _ h1 h2 (Nat.le_refl _) (bound_lo (I := I) (ρ := ρ) (hl P w I ρ bl r1)) (bound_lo (I := I) (ρ := ρ) (hhh P w I ρ bh r2)),
          .sl _ _ _ _ _ _ (fun i j => vs (l + i) j) c2 (by omega) c1 c3 c4 c5⟩
  · rename_i e wd els m0 ht
    obtain ⟨hi', rfl, hs, h⟩ := h
    obtain ⟨l, h, hl⟩ := abound_ok h
    obtain ⟨hh, h, hhh⟩ := abound_ok h
    obtain ⟨mm, h, hmm⟩ := abound_ok h
    obtain ⟨h1, rfl, h2, h⟩ := h
    refine ⟨_, h, fun w I ρ u bl bh bm hu r1 r2 r3 => ?_⟩
    obtain ⟨u2, rfl, q2⟩ := bound_some hs (hhh P w I ρ bh r2)
    obtain ⟨u3, rfl, q3⟩ := bound_some rfl (hmm P w I ρ bm r3)
    cases hu with
    | slt a A n _ _ vs hn ha hw hc hr =>
      subst hn
      obtain ⟨c1, c2, c3, c4, c5⟩ := cut_cells l hh hh h1 (by omega) ha h2 hw hc hr
      exact ⟨_, run_slice3 ht hi' w a els.length els.length l hh hh _ _ _ h1 (Nat.le_refl _) (by omega) (bound_lo (I := I) (ρ := ρ) (hl P w I ρ bl r1)) q2 q3,
        .slt _ _ _ _ _ (fun i j => vs (l + i) j) c2 c1 c3 c4 c5⟩
  · rename_i e ht
    obtain ⟨hi', h⟩ := h
    obtain ⟨l, h, hl⟩ := abound_ok h
    obtain ⟨hh, h, hhh⟩ := abound_ok h
    obtain ⟨h1, h2, hK⟩ := h
    obtain rfl : hh = 0 := by omega
    obtain rfl : l = 0 := by omega
    refine ⟨_, hK, fun w I ρ u bl bh bm hu r1 r2 r3 => ?_⟩
    cases bm with
    | some v => exact r3.elim
    | none =>
      cases hu
      exact ⟨_, run_slice2 ht hi' w none 0 0 0 0 _ _ h1 h2 (Nat.le_refl _) (bound_lo (I := I) (ρ := ρ) (hl P w I ρ bl r1)) (bound_lo (I := I) (ρ := ρ) (hhh P w I ρ bh r2)), .nils⟩
  · rename_i e m0 ht
    obtain ⟨hi', hs, h⟩ := h
    obtain ⟨l, h, hl⟩ := abound_ok h
    obtain ⟨hh, h, hhh⟩ := abound_ok h
    obtain ⟨mm, h, hmm⟩ := abound_ok h
    obtain ⟨h1, rfl, h2, hK⟩ := h
    obtain rfl : hh = 0 := by omega
    obtain rfl : l = 0 := by omega
    refine ⟨_, hK, fun w I ρ u bl bh bm hu r1 r2 r3 => ?_⟩
    obtain ⟨u2, rfl, q2⟩ := bound_some hs (hhh P w I ρ bh r2)
    obtain ⟨u3, rfl, q3⟩ := bound_some rfl (hmm P w I ρ bm r3)
    cases hu
    exact ⟨_, run_slice3 ht hi' w none 0 0 0 0 0 _ _ _ h1 (Nat.le_refl _) (by omega) (bound_lo (I := I) (ρ := ρ) (hl P w I ρ bl r1)) q2 q3, .nils⟩
  · rename_i e p wd off n ht
    obtain ⟨hi', rfl, h⟩ := h
    split at h
    · obtain ⟨hh, h, hhh⟩ := abound_ok h
      obtain ⟨h2, h⟩ := h
      refine ⟨_, h, fun w I ρ u bl bh bm hu r1 r2 r3 => ?_⟩
      cases bl with
      | some v => exact r1.elim
      | none =>
      cases bm with
      | some v => exact r3.elim
      | none =>
        cases hu with
        | row _ _ _ _ b c C t' hb hn hB hC =>
          refine ⟨_, run_slice2 ht hi' w _ n c 0 hh _ _ (Nat.zero_le _) h2 hn (.inl ⟨rfl, rfl⟩) (bound_lo (I := I) (ρ := ρ) (hhh P w I ρ bh r2)), ?_⟩
          have : (if c = 0 then some (⟨b, off * P.cellsOf e, none⟩ : Addr) else (some (⟨b, off * P.cellsOf e, none⟩ : Addr)).map (·.add (0 * P.cellsOf e))) = some ⟨b, off * P.cellsOf e, none⟩ := by
            split
            · rfl
            · rw [Option.map_some, add_none rfl]; simp
          rw [this]
          exact .row _ _ _ _ b c C t' hb (by omega) hB hC
    · rename_i lo'
      obtain ⟨l, h, hl⟩ := abound_ok h
      obtain ⟨hh, h, hhh⟩ := abound_ok h
      rcases h with ⟨h1, h2, h⟩ | ⟨rfl, h2, h⟩
      · refine ⟨_, h, fun w I ρ u bl bh bm hu r1 r2 r3 => ?_⟩
        cases bm with
        | some v => exact r3.elim
        | none =>
          cases hu with
          | row _ _ _ _ b c C t' hb hn hB hC =>
            refine ⟨_, run_slice2 ht hi' w _ n c l hh _ _ (by omega) h2 hn (bound_lo (I := I) (ρ := ρ) (hl P w I ρ bl r1)) (bound_lo (I := I) (ρ := ρ) (hhh P w I ρ bh r2)), ?_⟩
            rw [if_neg (by omega), Option.map_some, add_none rfl, ← Nat.add_mul]
            refine .row _ _ _ _ b _ C t' hb (by omega) hB ?_
            rw [show off + l + (c - l) = off + c from by omega]
            exact hC
      · refine ⟨_, h, fun w I ρ u bl bh bm hu r1 r2 r3 => ?_⟩
        cases bm with
        | some v => exact r3.elim
        | none =>
          cases hu with
          | row _ _ _ _ b c C t' hb hn hB hC =>
            refine ⟨_, run_slice2 ht hi' w _ n c l l _ _ (by omega) h2 hn (bound_lo (I := I) (ρ := ρ) (hl P w I ρ bl r1)) (bound_lo (I := I) (ρ := ρ) (hhh P w I ρ bh r2)), ?_⟩
            exact .sl _ default _ _ _ [] (fun _ _ => undef) (by simp) (by omega) (.inl rfl) (fun _ h => by cases h) (fun i _ hi => by simp at hi) (fun i _ _ _ hi => by simp at hi)
  · rename_i e p wd off n m0 ht
    obtain ⟨hi', rfl, hs, rfl, h⟩ := h
    obtain ⟨hh, h, hhh⟩ := abound_ok h
    obtain ⟨mm, h, hmm⟩ := abound_ok h
    obtain ⟨rfl, h2, h⟩ := h
    refine ⟨_, h, fun w I ρ u bl bh bm hu r1 r2 r3 => ?_⟩
    obtain ⟨u2, rfl, q2⟩ := bound_some hs (hhh P w I ρ bh r2)
    obtain ⟨u3, rfl, q3⟩ := bound_some rfl (hmm P w I ρ bm r3)
    cases bl with
    | some v => exact r1.elim
    | none =>
    cases hu with
    | row _ _ _ _ b c C t' hb hn hB hC =>
      refine ⟨_, run_slice3 ht hi' w _ n c 0 hh hh _ _ _ (Nat.zero_le _) (Nat.le_refl _) (by omega) (.inl ⟨rfl, rfl⟩) q2 q3, ?_⟩
      have : (if hh = 0 then some (⟨b, off * P.cellsOf e, none⟩ : Addr) else (some (⟨b, off * P.cellsOf e, none⟩ : Addr)).map (·.add (0 * P.cellsOf e))) = some ⟨b, off * P.cellsOf e, none⟩ := by
        split
        · rfl
        · rw [Option.map_some, add_none rfl]; simp
      rw [this]
      refine .row _ _ _ _ b _ C t' hb (by omega) hB ?_
      exact Nat.le_trans (Nat.mul_le_mul_right _ (by omega)) hC
  · exact h.elim
end Go.Proofs.Ytpjibokaeefhiaa.Tw
