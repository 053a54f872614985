import Derived.Test.YtaieiigfheabfaaYn
/-! normal.Of, normal.Is. -/
namespace Go.Proofs.Ytaieiigfheabfaa
open Go.Proofs.Ytaieiigfheabfaa.Tw
theorem Clone46e (A : Ar) (F : EmS) {P : Program} (hP : P = Try.prog) (l : List Stp) (hl0 : l = []) : TC1 P 46 [.sl 9 (F.l.l l)] [] (.slt 9 []) [] := by
  rw [hl0, F.l.nil]
  refine TC1.of A _ _ T0 (T0_ok hP) (hP ▸ Try.func46) rfl _ rfl (by simp) ?_
  cbv
  ((try cbv) <;> (repeat ((with_reducible refine EW.of ?_); cbv)))
  refine And.intro (fun _ => ?_) ?_
  · cbv
    ((try cbv) <;> (repeat ((with_reducible refine EW.of ?_); cbv)))
    refine R1.of ?_
    cbv
    all_goals (repeat (first | exact trivial | refine And.intro (Emb.Pur _ _) ?_ | refine And.intro rfl ?_ | refine And.intro (Pur.mk rfl) ?_ | refine And.intro (Pur.mk (by assumption)) ?_))
  · ((try cbv) <;> (repeat ((with_reducible refine EW.of ?_); cbv)))
    refine R1.of ?_
    cbv
    (repeat (first | exact trivial | refine And.intro (Emb.Pur _ _) ?_ | refine And.intro rfl ?_ | refine And.intro (Pur.mk rfl) ?_ | refine And.intro (Pur.mk (by assumption)) ?_))
    all_goals exact ⟨⟨rfl⟩, trivial⟩
theorem Clone46c (A : Ar) (F : EmS) {P : Program} (hP : P = Try.prog) (l : List Stp) (hl : l.length ≤ 1000000) (hl0 : l ≠ []) (q : Nat) (hq : q = l.length) : TC1 P 46 [.sl 9 (F.l.l l)] [] (.row 0 9 0 q) [some (.arr 9 (F.l.l l))] := by
  refine TC1.of A _ _ T0 (T0_ok hP) (hP ▸ Try.func46) rfl _ rfl (by simp) ?_
  have hll := F.l.len l
  have hsc := stp_scal F l
  have hpu := F.l.purL l
  have hne : F.l.l l ≠ [] := fun e => hl0 (List.eq_nil_of_length_eq_zero (by rw [← hll, e]; rfl))
  generalize F.l.l l = r at hll hsc hne hpu ⊢
  cbv
  ((try cbv) <;> (repeat ((with_reducible refine EW.of ?_); cbv)))
  refine And.intro (fun h => absurd h hne) ?_
  ((try cbv) <;> (repeat ((with_reducible refine EW.of ?_); cbv)))
  obtain ⟨a, al, hal⟩ : ∃ a al, r = a :: al := by
    cases r with
    | nil => exact absurd rfl hne
    | cons a al => exact ⟨a, al, rfl⟩
  rw [hal]
  cbv
  ((try cbv) <;> (repeat ((with_reducible refine EW.of ?_); cbv)))
  rw [← hal]
  refine ⟨⟨hsc⟩, 0, rfl, q, r, by rw [hq, hll, Nat.zero_add], by simp, Nat.zero_le _, ?_, ?_, ?_⟩
  · show q * 104 ≤ _
    omega
  · omega
  cbv
  ((try cbv) <;> (repeat ((with_reducible refine EW.of ?_); cbv)))
  refine R1.of ?_
  cbv
  (repeat (first | exact trivial | refine And.intro (Emb.Pur _ _) ?_ | refine And.intro rfl ?_ | refine And.intro (Pur.mk rfl) ?_ | refine And.intro (Pur.mk (by assumption)) ?_))
theorem onceR_len {l : List Stp} : (onceR l).1.length ≤ l.length ∧ ((onceR l).2 = true → (onceR l).1.length < l.length) := by
  have key : ∀ l x, onceF l = some x → x.length < l.length := by
    intro l
    induction l with
    | nil => intro x h; cases h
    | cons a l ih =>
      intro x h
      cases l with
      | nil => cases h
      | cons b r =>
        rw [onceF] at h
        cases hp : pairF a b with
        | some y =>
          rw [hp] at h
          cases h
          rcases pairF_len a b y hp with rfl | ⟨z, rfl⟩
          · simp; omega
          · simp
        | none =>
          rw [hp] at h
          cases ho : onceF (b :: r) with
          | none => rw [ho] at h; cases h
          | some z =>
            rw [ho] at h
            cases h
            have := ih z ho
            simp at this ⊢
            omega
  unfold onceR
  cases ho : onceF l with
  | none => exact ⟨Nat.le_refl _, fun h => by cases h⟩
  | some x => exact ⟨Nat.le_of_lt (key l x ho), fun _ => key l x ho⟩
/-- The normal form, in at most so many steps. -/
def nfN : Nat → List Stp → List Stp
  | 0, l => l
  | n + 1, l => if (onceR l).2 = true then nfN n (onceR l).1 else l
def nf (l : List Stp) : List Stp := nfN l.length l
theorem nfN_enough : ∀ (n m : Nat) (l : List Stp), l.length ≤ n → l.length ≤ m → nfN n l = nfN m l
  | 0, 0, l, _, _ => rfl
  | 0, m + 1, l, h, _ => by
    have : l = [] := List.eq_nil_of_length_eq_zero (by omega)
    subst this
    rfl
  | n + 1, 0, l, _, h => by
    have : l = [] := List.eq_nil_of_length_eq_zero (by omega)
    subst this
    rfl
  | n + 1, m + 1, l, h1, h2 => by
    rw [nfN, nfN]
    by_cases h : (onceR l).2 = true
    · rw [if_pos h, if_pos h]
      have := (onceR_len (l := l)).2 h
      exact nfN_enough n m _ (by omega) (by omega)
    · rw [if_neg h, if_neg h]
theorem nf_step {l : List Stp} (h : (onceR l).2 = true) : nf l = nf (onceR l).1 := by
  have hl := (onceR_len (l := l)).2 h
  unfold nf
  cases hn : l.length with
  | zero => omega
  | succ n =>
    rw [nfN, if_pos h]
    exact nfN_enough _ _ _ (by omega) (Nat.le_refl _)
theorem nf_stop {l : List Stp} (h : (onceR l).2 = false) : nf l = l := by
  unfold nf
  cases hn : l.length with
  | zero => rfl
  | succ n => rw [nfN, if_neg (by rw [h]; simp)]
theorem textT_within (id : Int) (s : ByteArray) : ∀ (n : Nat) (t : Tree), within n t → within n (textT id s t).1
  | 0, t, h => h.elim
  | n + 1, .node i k x ks, h => by
    rw [textT]
    by_cases hi : i = id
    · rw [if_pos hi]; exact h
    · rw [if_neg hi]
      have key : ∀ ks : List Tree, (∀ t ∈ ks, within n t) → (textTs id s ks).1.length = ks.length ∧ ∀ t ∈ (textTs id s ks).1, within n t := by
        intro ks
        induction ks with
        | nil => exact fun _ => ⟨rfl, fun t ht => by simp [textTs] at ht⟩
        | cons t ts ih =>
          intro hk
          have ih := ih fun t ht => hk t (List.mem_cons_of_mem _ ht)
          rw [textTs]
          by_cases hd : (textT id s t).2 = true
          · rw [if_pos hd]
            refine ⟨rfl, fun u hu => ?_⟩
            rcases List.mem_cons.1 hu with rfl | hu
            · exact textT_within id s n t (hk t (List.mem_cons_self ..))
            · exact hk u (List.mem_cons_of_mem _ hu)
          · rw [if_neg hd]
            refine ⟨by simp [ih.1], fun u hu => ?_⟩
            rcases List.mem_cons.1 hu with rfl | hu
            · exact hk _ (List.mem_cons_self ..)
            · exact ih.2 u hu
      have := key ks h.2
      exact ⟨by rw [this.1]; exact h.1, this.2⟩
theorem pairF_within {n : Nat} {a b : Stp} (ha : within n a.sub) (hb : within n b.sub) {x : List Stp} (h : pairF a b = some x) : ∀ y ∈ x, within n y.sub := by
  unfold pairF at h
  split at h
  · cases h; intro y hy; simp at hy; subst hy; exact hb
  split at h
  · cases h; intro y hy; simp at hy; subst hy; exact hb
  split at h
  · cases h; intro y hy; simp at hy
  split at h
  · cases h; intro y hy; simp at hy; subst hy; exact textT_within _ _ n _ ha
  · cases h
theorem onceR_within {n : Nat} {l : List Stp} (h : ∀ x ∈ l, within n x.sub) : ∀ x ∈ (onceR l).1, within n x.sub := by
  have key : ∀ l : List Stp, (∀ x ∈ l, within n x.sub) → ∀ x, onceF l = some x → ∀ y ∈ x, within n y.sub := by
    intro l
    induction l with
    | nil => intro _ x h; cases h
    | cons a l ih =>
      intro hw x h
      cases l with
      | nil => cases h
      | cons b r =>
        rw [onceF] at h
        cases hp : pairF a b with
        | some y =>
          rw [hp] at h
          cases h
          intro z hz
          rcases List.mem_append.1 hz with hz | hz
          · exact pairF_within (hw a (by simp)) (hw b (by simp)) hp z hz
          · exact hw z (by simp [hz])
        | none =>
          rw [hp] at h
          cases ho : onceF (b :: r) with
          | none => rw [ho] at h; cases h
          | some w =>
            rw [ho] at h
            cases h
            intro z hz
            rcases List.mem_cons.1 hz with rfl | hz
            · exact hw _ (by simp)
            · exact ih (fun x hx => hw x (List.mem_cons_of_mem _ hx)) w ho z hz
  unfold onceR
  cases ho : onceF l with
  | none => exact h
  | some x => exact key l h x ho
theorem Is14 (A : Ar) (E : Em) (F : EmS) {P : Program} (hP : P = Try.prog) (n : Nat) (l : List Stp) (hl : l.length ≤ 1000000) (hw : ∀ x ∈ l, within (n + 1) x.sub) : TPure P 14 [.sl 9 (F.l.l l)] (.bool (!(onceR l).2)) := by
  have h := once30 A E F hP n l hl hw
  generalize (onceR l).2 = b at h ⊢
  generalize (onceR l).1 = r at h
  refine TPure.ofE A T0 (T0_ok hP) (hP ▸ Try.func14) rfl _ rfl (by simp) ?_
  cbv
  ((try cbv) <;> (repeat ((with_reducible refine EW.of ?_); cbv)))
  (refine ⟨Ent.of (hP ▸ Try.func30) rfl, ?_⟩; refine TC.pureE h ?_; cbv; (repeat (first | exact trivial | refine And.intro (Emb.Pur _ _) ?_ | refine And.intro rfl ?_ | refine And.intro (Pur.mk rfl) ?_ | refine And.intro (Pur.mk (by assumption)) ?_)); ((try cbv) <;> (repeat ((with_reducible refine EW.of ?_); cbv))))
  exact ⟨rfl, trivial⟩
end Go.Proofs.Ytaieiigfheabfaa
