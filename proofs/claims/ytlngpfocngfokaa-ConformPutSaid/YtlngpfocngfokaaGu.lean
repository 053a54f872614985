import Derived.Test.YtlngpfocngfokaaGs
import Derived.Test.YtlngpfocngfokaaGm
/-! A row put together fits; one that fits has enough. -/
namespace Go.Proofs.Ytlngpfocngfokaa
open Go.Proofs.Ytlngpfocngfokaa.Tw
structure Slo.fair (s : Slo) : Prop where
  some : 1 ≤ s.kinds.length
  few : s.kinds.length ≤ 32
  low : 0 ≤ s.least
  mid : s.least ≤ s.most
  high : s.most ≤ 1000
theorem slotB_fair {n : Int} {s : Slo} (h : slotB n s = true) : s.fair := by
  unfold slotB risB at h
  simp only [Bool.and_eq_true, decide_eq_true_eq] at h
  exact ⟨h.1.1, h.1.2.1, h.2.1, h.2.2.1, h.2.2.2⟩
theorem check_fair {g : Gra} (h : checkB g = true) {i : Nat} {x : Knd} (hx : g.kinds[i]? = some x) : x.slots.length ≤ 8 ∧ ∀ s ∈ x.slots, s.fair := by
  unfold checkB at h
  simp only [Bool.and_eq_true] at h
  have h2 := List.all_eq_true.1 h.2.2 x (List.mem_of_getElem? hx)
  unfold kindB at h2
  simp only [Bool.and_eq_true, decide_eq_true_eq] at h2
  exact ⟨h2.2.2.1, fun s hs => slotB_fair (List.all_eq_true.1 h2.2.2.2 s hs)⟩
theorem sumL_sumI {A : Ar} : ∀ (ss : List Slo) (n : Int), (∀ s ∈ ss, s.fair) → 0 ≤ n → n + 1000 * ss.length ≤ 1000000 → sumL A n ss = n + sumI ss
  | [], n, _, _, _ => by simp [sumL, sumI]
  | s :: ss, n, h, h0, h1 => by
    have hs := h s (by simp)
    have h2 := hs.low
    have h3 := hs.mid
    have h4 := hs.high
    simp only [List.length_cons] at h1
    rw [sumL, add_i64 rfl rfl (by omega) (by omega), sumL_sumI ss _ (fun t ht => h t (by simp [ht])) (by omega) (by omega), sumI]
    omega
theorem fits_least {A : Ar} {g : Gra} {k : Int} {kids : List Int} (h : fitsB g k kids = true) : leastI A g k ≤ kids.length ∧ kids.length ≤ 200 := by
  unfold fitsB at h
  unfold leastI
  obtain ⟨o, ho⟩ : ∃ o, o = kindO g k := ⟨_, rfl⟩
  rw [← ho] at h ⊢
  cases o with
  | none => cases h
  | some x =>
    unfold kindO at ho
    split at ho
    · rename_i hc
      have hf := check_fair hc.1 ho.symm
      simp only [fitsO] at h
      split at h
      · cases h
      · rw [slotsF_cuts] at h
        have := Cuts.least kids _ _ _ h
        simp only [leastO]
        rw [sumL_sumI _ _ hf.2 (by omega) (by have := hf.1; omega)]
        omega
    · cases ho
theorem made_fits {g : Gra} {k : Int} {x : Knd} (hx : kindO g k = some x) {l : List Int} (hl : l.length ≤ 200) (h : Made x.slots l) : fitsB g k l = true := by
  unfold fitsB
  rw [hx]
  simp only [fitsO]
  rw [if_neg (by omega)]
  exact h.fits
def stI (E : Em) (L : Store) : Option (Nat × List Int) → Store
  | none => L
  | some (_, l) => L ++ [some (.arr 1 (E.int.l l))]
def rowI (p : Nat) : Option (Nat × List Int) → AV
  | none => .nils
  | some (m, _) => .row p 1 0 m
def outI : Option (Nat × List Int) → List Int
  | none => []
  | some (_, l) => l
def okI : Option (Nat × List Int) → Prop
  | none => True
  | some (m, l) => m = l.length
theorem mayB_get {l : List Int} {i : Nat} {x : Int} (h : l[i]? = some x) : mayB x l = true := List.any_eq_true.2 ⟨x, List.mem_of_getElem? h, by simp⟩
theorem mn_mx (A : Ar) {c l m : Int} (h : l ≤ m) : l ≤ A.mn (A.mx c l) m ∧ A.mn (A.mx c l) m ≤ m := by
  rw [A.ok_mn, A.ok_mx]
  split <;> split <;> omega
theorem rem_len (A : Ar) {a b : Nat} : A.op .rem .i64 (a : Int) (b : Int) = ((a % b : Nat) : Int) := by
  rw [A.ok_rem, Int.ofNat_tmod]
theorem rem_rem (A : Ar) {x : Int} {n : Nat} (h : 0 < n) (hn : n ≤ 9223372036854775807 / 2) : ∃ kk : Nat, kk < n ∧ A.op .rem .i64 (A.op .add .i64 (A.op .rem .i64 x (n : Int)) (n : Int)) (n : Int) = (kk : Int) := by
  have h1 : A.op .rem .i64 x (n : Int) = x.tmod n := A.ok_rem ..
  have h2 : x.tmod n < n := Int.tmod_lt_of_pos _ (by omega)
  have h3 : -(n : Int) < x.tmod n := Int.lt_tmod_of_pos _ (by omega)
  rw [h1, add_i64 rfl rfl (by omega) (by omega), A.ok_rem]
  obtain ⟨z, hz⟩ : ∃ z : Nat, x.tmod n + n = z := ⟨(x.tmod n + n).toNat, by omega⟩
  rw [hz, ← Int.ofNat_tmod]
  exact ⟨z % n, Nat.mod_lt _ h, rfl⟩
end Go.Proofs.Ytlngpfocngfokaa
