import Derived.Test.YtpjibokaeefhiaaMa
/-! The law PlaceCommon, walked. -/
namespace Go.Proofs.Ytpjibokaeefhiaa
open Go.Proofs.Ytpjibokaeefhiaa.Tw
def spotIds (l : List (Tree × Nat)) : List Int := l.map (·.1.id)
def apartS (l : List (Tree × Nat)) : Bool := decide (spotIds l).Nodup
theorem take_nodup {l : List Int} {i : Nat} {x : Int} (hx : l[i]? = some x) (h : (l.take i).Nodup) (hn : x ∉ l.take i) : (l.take (i + 1)).Nodup := by
  rw [List.take_add_one, hx]
  simp only [Option.toList_some]
  rw [List.nodup_append]
  refine ⟨h, by simp, fun a ha b hb => ?_⟩
  simp at hb
  subst hb
  exact fun e => hn (e ▸ ha)
theorem not_nodup {l : List Int} {i k : Nat} {x : Int} (hk : k < i) (hx : l[i]? = some x) (hy : l[k]? = some x) : ¬ l.Nodup := fun h => by
  have := (List.getElem?_inj (List.getElem?_eq_some_iff.1 hx).1 h).1 (hx.trans hy.symm)
  omega
theorem apart24 (A : Ar) (E : Em) {P : Program} (hP : P = Try.prog) (l : List (Tree × Nat)) (hl : l.length ≤ 1000000) : TPure P 24 [.sl 5 (E.spot.l l)] (.bool (apartS l)) := by
  refine TPure.ofE A T0 (T0_ok hP) (hP ▸ Try.func24) rfl _ rfl (by simp) ?_
  have hll := E.spot.len l
  obtain ⟨r, hr⟩ : ∃ r, r = apartS l := ⟨_, rfl⟩
  rw [← hr]
  have hil : (spotIds l).length = l.length := by simp [spotIds]
  have hid : ∀ {j : Nat} {x : Tree × Nat}, l[j]? = some x → (spotIds l)[j]? = some x.1.id := fun h => by simp [spotIds, h]
  cbv
  ((try cbv) <;> (repeat ((with_reducible refine EW.of ?_); cbv)))
  obtain ⟨S, hS⟩ : ∃ S : LI Nat, S = ⟨fun i => [(3, .int .i64 i), (0, .sl 5 (E.spot.l l))], fun _ => [], fun i => i ≤ l.length ∧ ((spotIds l).take i).Nodup, fun i => l.length - i⟩ := ⟨_, rfl⟩
  refine TW.loopM A (T0_ok hP) S 29 rfl 0 ?_ ?_ ?_
  · rw [hS]; exact ⟨Nat.zero_le _, List.nodup_nil⟩
  · rw [hS]; cbv; (repeat (first | exact trivial | refine And.intro (Emb.Pur _ _) ?_ | refine And.intro rfl ?_ | refine And.intro (Pur.mk rfl) ?_ | refine And.intro (Pur.mk (by assumption)) ?_))
  intro i hj l1 L1 e1 e2; rw [hS] at hj e1 e2; dsimp only at hj e1 e2; obtain ⟨hi, hnd⟩ := hj; subst e1 e2
  cbv
  ((try cbv) <;> (repeat ((with_reducible refine EW.of ?_); cbv)))
  refine bsplit (fun h => ?_) (fun h => ?_)
  · have h : i < (E.spot.l l).length := lt_nt h rfl (A.ok_len _)
    obtain ⟨x, hx⟩ : ∃ x, l[i]? = some x := ⟨_, List.getElem?_eq_getElem (by omega)⟩
    have hxi := hid hx
    obtain ⟨⟨i1, k1, s1, ks1⟩, d1⟩ := x
    ((try cbv) <;> (repeat ((with_reducible refine EW.of ?_); cbv)))
    obtain ⟨S2, hS2⟩ : ∃ S2 : LI Nat, S2 = ⟨fun k => [(4, .int .i64 k), (3, .int .i64 i), (0, .sl 5 (E.spot.l l))], fun _ => [], fun k => k ≤ i ∧ i1 ∉ (spotIds l).take k, fun k => i - k⟩ := ⟨_, rfl⟩
    refine TW.loopM A (T0_ok hP) S2 29 rfl 0 ?_ ?_ ?_
    · rw [hS2]; exact ⟨Nat.zero_le _, by simp⟩
    · rw [hS2]; cbv; (repeat (first | exact trivial | refine And.intro (Emb.Pur _ _) ?_ | refine And.intro rfl ?_ | refine And.intro (Pur.mk rfl) ?_ | refine And.intro (Pur.mk (by assumption)) ?_))
    intro k hj l1 L1 e1 e2; rw [hS2] at hj e1 e2; dsimp only at hj e1 e2; obtain ⟨hk, hno⟩ := hj; subst e1 e2
    cbv
    ((try cbv) <;> (repeat ((with_reducible refine EW.of ?_); cbv)))
    refine bsplit (fun h2 => ?_) (fun h2 => ?_)
    · have h2 : k < i := lt_nt h2 rfl rfl
      obtain ⟨y, hy⟩ : ∃ y, l[k]? = some y := ⟨_, List.getElem?_eq_getElem (by omega)⟩
      have hyi := hid hy
      obtain ⟨⟨i2, k2, s2, ks2⟩, d2⟩ := y
      ((try cbv) <;> (repeat ((with_reducible refine EW.of ?_); cbv)))
      (refine TW.draw (A := A) (T0_ok hP) (hP ▸ follows_mixed) (by kernel_rfl) rfl ?_; cbv)
      refine ⟨i, _, rfl, E.gets hx, ?_⟩
      cbv
      refine ⟨k, _, rfl, E.gets hy, ?_⟩
      cbv
      ((try cbv) <;> (repeat ((with_reducible refine EW.of ?_); cbv)))
      refine bsplit (fun h3 => ?_) (fun h3 => ?_)
      · have h3 : i1 = i2 := eq_t h3 rfl rfl
        subst h3
        have hf : r = false := by rw [hr]; exact decide_eq_false (not_nodup h2 hxi hyi)
        subst hf
        ((try cbv) <;> (repeat ((with_reducible refine EW.of ?_); cbv)))
      · have h3 : i1 ≠ i2 := eq_f h3 rfl rfl
        ((try cbv) <;> (repeat ((with_reducible refine EW.of ?_); cbv)))
        refine LM.of (k + 1) rfl ?_ ?_ ?_
        · rw [hS2]
          refine ⟨h2, ?_⟩
          rw [List.take_add_one, hyi]
          simp only [Option.toList_some, List.mem_append, List.mem_singleton, not_or]
          exact ⟨hno, h3⟩
        · rw [hS2]; show i - (k + 1) < i - k; omega
        · rw [hS2]; cbv
          refine ⟨inc_eq A (by omega), ?_⟩
          (repeat (first | exact trivial | refine And.intro (Emb.Pur _ _) ?_ | refine And.intro rfl ?_ | refine And.intro (Pur.mk rfl) ?_ | refine And.intro (Pur.mk (by assumption)) ?_))
    · have h2 : i ≤ k := lt_nf h2 rfl rfl
      obtain rfl : k = i := by omega
      ((try cbv) <;> (repeat ((with_reducible refine EW.of ?_); cbv)))
      refine LM.of (k + 1) rfl ?_ ?_ ?_
      · rw [hS]; exact ⟨by omega, take_nodup hxi hnd hno⟩
      · rw [hS]; show l.length - (k + 1) < l.length - k; omega
      · rw [hS]; cbv
        refine ⟨inc_eq A (by omega), ?_⟩
        (repeat (first | exact trivial | refine And.intro (Emb.Pur _ _) ?_ | refine And.intro rfl ?_ | refine And.intro (Pur.mk rfl) ?_ | refine And.intro (Pur.mk (by assumption)) ?_))
  · have h : (E.spot.l l).length ≤ i := lt_nf h rfl (A.ok_len _)
    have ht : r = true := by
      rw [hr]
      refine decide_eq_true ?_
      rw [List.take_of_length_le (by omega)] at hnd
      exact hnd
    subst ht
    ((try cbv) <;> (repeat ((with_reducible refine EW.of ?_); cbv)))
end Go.Proofs.Ytpjibokaeefhiaa
