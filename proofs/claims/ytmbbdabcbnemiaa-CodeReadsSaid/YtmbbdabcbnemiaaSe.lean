import Derived.Test.YtmbbdabcbnemiaaSd
/-! The reference's nodes. -/
namespace Go.Proofs.Ytmbbdabcbnemiaa
open Go.Proofs.Ytmbbdabcbnemiaa.Tw
/-- Kids read one behind the other: they, the count, the place, what failed. -/
def kidsF {α : Type} (one : Nat → Nat → Int → α × Nat × Nat × Int) : Nat → Nat → Nat → Int → List α × Nat × Nat × Int
  | 0, c, a, b => ([], c, a, b)
  | n + 1, c, a, b => if 0 ≤ b then ([], c, a, b) else
    ((one c a b).1 :: (kidsF one n (one c a b).2.1 (one c a b).2.2.1 (one c a b).2.2.2).1, (kidsF one n (one c a b).2.1 (one c a b).2.2.1 (one c a b).2.2.2).2)
def nodeF (A : Ar) (bs : List UInt8) : Nat → Nat → Nat → Int → Tree × Nat × Nat × Int
  | 0, c, a, b => if 0 ≤ b then (tree0, c, a, b) else (tree0, c + 1, a, a)
  | f + 1, c, a, b => if 0 ≤ b then (tree0, c, a, b) else if 200 < c + 1 then (tree0, c + 1, a, a) else
    let r1 := askR 0 bs a b (numR A bs a)
    let r2 := askR 0 bs r1.2.1 r1.2.2 (numR A bs r1.2.1)
    let r3 := askR ⟨#[]⟩ bs r2.2.1 r2.2.2 (textR A bs r2.2.1)
    let r4 := askR 0 bs r3.2.1 r3.2.2 (countR A bs r3.2.1 32 bs.length)
    let r5 := kidsF (nodeF A bs f) r4.1.toNat (c + 1) r4.2.1 r4.2.2
    (.node r1.1 r2.1 r3.1 r5.1, r5.2)
theorem askR_neg {α : Type} {z : α} {bs : List UInt8} {a : Nat} {b : Int} {r : RR α} (hb : ¬ 0 ≤ b) : askR z bs a b r = (match r with | .ok v a2 => (v, a2, b) | .no e a2 => (z, a2, e)) := by
  unfold askR; rw [if_neg hb]; cases r <;> rfl
theorem kidsF_pos {α : Type} {one : Nat → Nat → Int → α × Nat × Nat × Int} {n c a : Nat} {b : Int} (hb : 0 ≤ b) : kidsF one n c a b = ([], c, a, b) := by
  cases n with
  | zero => rfl
  | succ n => rw [kidsF, if_pos hb]
theorem askN_pos {A : Ar} {bs : List UInt8} {a : Nat} {b : Int} {v : Int} {a2 : Nat} {b2 : Int} (ha : a ≤ bs.length) (h : askR 0 bs a b (numR A bs a) = (v, a2, b2)) : a2 ≤ bs.length := by
  unfold askR at h
  split at h
  · cases h; exact ha
  cases hc : numR A bs a with
  | no e a3 => rw [hc] at h; cases h; rw [(numR_no hc).2]; exact ha
  | ok m a3 => rw [hc] at h; cases h; exact (numR_ok hc).2
theorem askT_pos {A : Ar} {bs : List UInt8} (hl : bs.length ≤ 1000000000) {a : Nat} {b : Int} {v : ByteArray} {a2 : Nat} {b2 : Int} (ha : a ≤ bs.length) (h : askR ⟨#[]⟩ bs a b (textR A bs a) = (v, a2, b2)) : a2 ≤ bs.length := by
  obtain ⟨n, a3, b3, hc⟩ : ∃ n a3 b3, askR 0 bs a b (countR A bs a 1 bs.length) = (n, a3, b3) := ⟨_, _, _, rfl⟩
  rcases textA hl h hc with ⟨_, _, rfl, _⟩ | ⟨_, _, m, _, rfl, h, _⟩
  · exact countR_pos hl ha hc
  · exact h
theorem askC_bd {A : Ar} {bs : List UInt8} (hl : bs.length ≤ 1000000000) {a : Nat} {b : Int} {size most n : Int} {a2 : Nat} {b2 : Int} (h : askR 0 bs a b (countR A bs a size most) = (n, a2, b2)) : 0 ≤ n ∧ n ≤ max most 0 := by
  unfold askR at h
  split at h
  · cases h; omega
  cases hc : countR A bs a size most with
  | no e a3 => rw [hc] at h; cases h; omega
  | ok m a3 => rw [hc] at h; cases h; have := countR_ok hl hc; omega
/-- What holds of a count, a place and what failed. -/
def goodF (bs : List UInt8) (c a : Nat) (b : Int) : Prop := c ≤ 201 ∧ a ≤ bs.length ∧ (b < 0 → c ≤ 200)
theorem askC_nat {A : Ar} {bs : List UInt8} (hl : bs.length ≤ 1000000000) {a : Nat} {b : Int} {size n : Int} {most : Nat} {a2 : Nat} {b2 : Int} (h : askR 0 bs a b (countR A bs a size most) = (n, a2, b2)) : ∃ m : Nat, n = m ∧ m ≤ most := by
  have := askC_bd hl h
  exact ⟨n.toNat, by omega, by omega⟩
theorem kidsF_good {α : Type} {bs : List UInt8} {one : Nat → Nat → Int → α × Nat × Nat × Int} (hone : ∀ c a b, goodF bs c a b → goodF bs (one c a b).2.1 (one c a b).2.2.1 (one c a b).2.2.2) : ∀ (n c a : Nat) (b : Int), goodF bs c a b → goodF bs (kidsF one n c a b).2.1 (kidsF one n c a b).2.2.1 (kidsF one n c a b).2.2.2
  | 0, c, a, b, h => h
  | n + 1, c, a, b, h => by
    rw [kidsF]
    split
    · exact h
    · exact kidsF_good hone n _ _ _ (hone c a b h)
theorem nodeF_good {A : Ar} {bs : List UInt8} (hl : bs.length ≤ 1000000000) : ∀ (f c a : Nat) (b : Int), goodF bs c a b → goodF bs (nodeF A bs f c a b).2.1 (nodeF A bs f c a b).2.2.1 (nodeF A bs f c a b).2.2.2
  | 0, c, a, b, h => by
    rw [nodeF]
    unfold goodF at h
    split
    · exact h
    · exact ⟨by show c + 1 ≤ _; omega, h.2.1, fun (hb : (a : Int) < 0) => by omega⟩
  | f + 1, c, a, b, h => by
    rw [nodeF]
    unfold goodF at h
    split
    · exact h
    split
    · exact ⟨by show c + 1 ≤ _; omega, h.2.1, fun (hb : (a : Int) < 0) => by omega⟩
    refine kidsF_good (nodeF_good hl f) _ _ _ _ ⟨by omega, ?_, fun _ => by omega⟩
    exact countR_pos hl (askT_pos hl (askN_pos (askN_pos h.2.1 rfl) rfl) rfl) rfl
end Go.Proofs.Ytmbbdabcbnemiaa
