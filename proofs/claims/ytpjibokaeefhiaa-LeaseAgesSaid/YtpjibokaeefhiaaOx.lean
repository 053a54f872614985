import Derived.Test.YtpjibokaeefhiaaOv
/-! The law LeaseOver, walked. -/
namespace Go.Proofs.Ytpjibokaeefhiaa
open Go.Proofs.Ytpjibokaeefhiaa.Tw
theorem mod_op (A : Ar) (x b : Int) (h0 : 0 < b) (h1 : b ≤ 1000) : 0 ≤ A.op .rem .i64 (A.op .add .i64 (A.op .rem .i64 x b) b) b ∧ A.op .rem .i64 (A.op .add .i64 (A.op .rem .i64 x b) b) b < b := by
  rw [A.ok_rem, A.ok_rem]
  have h2 := Int.tmod_lt_of_pos x h0
  have h3 := Int.lt_tmod_of_pos x h0
  rw [add_i64 rfl rfl (by omega) (by omega)]
  exact ⟨Int.tmod_nonneg _ (by omega), Int.tmod_lt_of_pos _ h0⟩
theorem mod_op1 (A : Ar) (x : Int) : 1 ≤ A.op .add .i64 1 (A.op .rem .i64 (A.op .add .i64 (A.op .rem .i64 x 50) 50) 50) ∧ A.op .add .i64 1 (A.op .rem .i64 (A.op .add .i64 (A.op .rem .i64 x 50) 50) 50) ≤ 50 := by
  have := mod_op A x 50 (by decide) (by decide)
  rw [add_i64 rfl rfl (by omega) (by omega)]
  omega
theorem EmE.keys (G : EmE) (m : List Ent3) (k : Int) : Keys (.int .i64) (.int .i64 k) (G.l m) := ⟨rfl, fun x hx => by
  rw [G.ok] at hx
  obtain ⟨y, _, rfl⟩ := List.mem_map.1 hx
  rfl⟩
def x7 : Lease := ⟨7, 2, 1, 7, 7⟩
/-- The entries when the lease was there i - 1 times. -/
def OverI (i : Nat) (c : Nat) (m : List Ent3) : Prop := (i = 1 ∧ m = []) ∨ (2 ≤ i ∧ ∃ b, b < c ∧ m = [(b, 7, (i : Int) - 1)])
theorem OverI.ok {i c : Nat} {m : List Ent3} (h : OverI i c m) (hi : i ≤ 61) : OkE c m 60 := by
  rcases h with ⟨_, rfl⟩ | ⟨h2, b, hb, rfl⟩
  · exact ⟨by simp, by simp, by simp, by simp, by simp⟩
  · refine ⟨by simp, by simpa using hb, by simp, ?_, ?_⟩
    · intro x hx; simp at hx; subst hx; show 0 ≤ (i : Int) - 1; omega
    · intro x hx; simp at hx; subst hx; show (i : Int) - 1 ≤ 60; omega
theorem over_tick {T : Int} {i c : Nat} {m : List Ent3} (h : OverI i c m) : ∃ c' m', tickS T [x7] c m = (c', m', if T ≤ i then [7] else []) ∧ OverI (i + 1) c' m' ∧ ageE 7 m' = i := by
  rcases h with ⟨rfl, rfl⟩ | ⟨h2, b, hb, rfl⟩
  · refine ⟨c + 1, [(c, 7, 1)], ?_, .inr ⟨by omega, c, by omega, by simp⟩, by simp [ageE]⟩
    simp [tickS, runE, tickE, x7, upE, ageE]
  · refine ⟨c, [(b, 7, (i : Int))], ?_, .inr ⟨by omega, b, hb, by simp⟩, by simp [ageE]⟩
    simp [tickS, runE, tickE, x7, upE, ageE]
theorem over_none (T : Int) (c : Nat) (m : List Ent3) : tickS T [] c m = (c, [], []) := by simp [tickS, runE]
set_option maxHeartbeats 1000000 in
theorem lawOver (A : Ar) (E : Em) (F : EmL) (G : EmE) {P : Program} (hP : P = Try.prog) (x y z : Int) : TPure P 10 [.int .i64 x, .int .i64 y, .int .i64 z] (.bool true) := by
  refine TPure.ofE A T0 (T0_ok hP) (hP ▸ Try.func10) rfl _ rfl (by simp) ?_
  have h35 := wakes35 A hP
  have h46 := one46 A hP 7 2
  obtain ⟨T, hT⟩ : ∃ T, T = A.op .add .i64 1 (A.op .rem .i64 (A.op .add .i64 (A.op .rem .i64 x 50) 50) 50) := ⟨_, rfl⟩
  have hTb := mod_op1 A x
  rw [← hT] at hTb
  obtain ⟨n1, hn1⟩ : ∃ T, T = A.op .rem .i64 (A.op .add .i64 (A.op .rem .i64 y 60) 60) 60 := ⟨_, rfl⟩
  have hb1 := mod_op A y 60 (by decide) (by decide)
  rw [← hn1] at hb1
  obtain ⟨n2, hn2⟩ : ∃ T, T = A.op .rem .i64 (A.op .add .i64 (A.op .rem .i64 z 60) 60) 60 := ⟨_, rfl⟩
  have hb2 := mod_op A z 60 (by decide) (by decide)
  rw [← hn2] at hb2
  have h39 := NewAges39 A hP T (by omega) (by omega)
  cbv
  ((try cbv) <;> (repeat ((with_reducible refine EW.of ?_); cbv)))
  refine ⟨by decide, ⟨by decide, ?_⟩⟩
  refine EW.vs [(0, .int .i64 T), (1, .int .i64 y), (2, .int .i64 z)] [] 74 rfl ?_
  cbv
  refine And.intro hT.symm ?_
  (repeat (first | exact trivial | refine And.intro (Emb.Pur _ _) ?_ | refine And.intro rfl ?_ | refine And.intro (Pur.mk rfl) ?_ | refine And.intro (Pur.mk (by assumption)) ?_))
  ((try cbv) <;> (repeat ((with_reducible refine EW.of ?_); cbv)))
  refine ⟨Ent.of (hP ▸ Try.func39) rfl, ?_⟩
  refine TC1.call [] h39 ?_
  cbv
  (repeat (first | exact trivial | refine And.intro (Emb.Pur _ _) ?_ | refine And.intro rfl ?_ | refine And.intro (Pur.mk rfl) ?_ | refine And.intro (Pur.mk (by assumption)) ?_))
  refine And.intro ⟨fun x h => by cases h⟩ ?_
  ((try cbv) <;> (repeat ((with_reducible refine EW.of ?_); cbv)))
  (first | refine bno (neF rfl) ?_ | refine bno (nbF rfl) ?_)
  ((try cbv) <;> (repeat ((with_reducible refine EW.of ?_); cbv)))
  (refine ⟨Ent.of (hP ▸ Try.func46) rfl, ?_⟩; refine TC.pureE h46 ?_; cbv; (repeat (first | exact trivial | refine And.intro (Emb.Pur _ _) ?_ | refine And.intro rfl ?_ | refine And.intro (Pur.mk rfl) ?_ | refine And.intro (Pur.mk (by assumption)) ?_)); ((try cbv) <;> (repeat ((with_reducible refine EW.of ?_); cbv))))
  refine ⟨by decide, ⟨by decide, ⟨by decide, ⟨by decide, ?_⟩⟩⟩⟩
  obtain ⟨R, hR⟩ : ∃ R, R = [AV.int .i64 n1, .int .i64 n2] := ⟨_, rfl⟩
  have hRl : R.length = 2 := by rw [hR]; rfl
  have hRg : ∀ k, k < 2 → ∃ n : Nat, R[k]? = some (.int .i64 n) ∧ n < 60 := fun k hk => by
    have h2 : k = 0 ∨ k = 1 := by omega
    rcases h2 with rfl | rfl
    · exact ⟨n1.toNat, by rw [hR, Int.toNat_of_nonneg hb1.1]; rfl, by omega⟩
    · exact ⟨n2.toNat, by rw [hR, Int.toNat_of_nonneg hb2.1]; rfl, by omega⟩
  have hRp : Pur R := by rw [hR]; exact ⟨rfl⟩
  rw [hn1, hn2] at hR
  obtain ⟨X, hX⟩ : ∃ X, X = F.l.l [x7] := ⟨_, rfl⟩
  have hXv : X = [.agg [.int .i64 7, .int .i64 2, .int .i64 1, .int .i64 7, .int .i64 7]] := by rw [hX, x7, F.l.cons, F.row, F.l.nil]
  have hXp : Pur X := by rw [hX]; exact F.l.Pur _
  have hG0 : G.l [] = [] := by rw [G.ok]; rfl
  clear hn1 hn2 hT hb1 hb2
  obtain ⟨S, hS⟩ : ∃ S : LI (Nat × Nat), S = ⟨fun x => [(38, .int .i64 x.1), (37, .int .i64 (A.len R)), (36, .sl 1 R), (9, .sl 5 X), (7, .ref 0 2 0 0), (0, .int .i64 T)], fun x => [some (.box 2 (.agg [.map 1, .int .i64 T])), some (.mp x.2 (G.l []))], fun x => x.1 ≤ 2, fun x => 2 - x.1⟩ := ⟨_, rfl⟩
  ((try cbv) <;> (repeat ((with_reducible refine EW.of ?_); cbv)))
  refine TW.loopM A (T0_ok hP) S _ rfl (0, 0) ?_ ?_ ?_
  · rw [hS]; exact Nat.zero_le _
  · rw [hS]; cbv; exact ⟨hG0.symm, G.pur _, rfl, by rw [hR], hR.symm, hRp, hXv.symm, hXp, trivial⟩
  rintro ⟨k, c⟩ hk l1 L1 e1 e2
  rw [hS] at hk e1 e2
  dsimp only at hk e1 e2
  subst e1 e2
  cbv
  ((try cbv) <;> (repeat ((with_reducible refine EW.of ?_); cbv)))
  refine bsplit (fun h => ?_) (fun h => ?_)
  · have h : k < R.length := lt_nt h rfl (A.ok_len _)
    obtain ⟨n, hn, hn60⟩ := hRg k (by omega)
    ((try cbv) <;> (repeat ((with_reducible refine EW.of ?_); cbv)))
    refine ⟨k, _, rfl, hn, ?_⟩
    cbv
    ((try cbv) <;> (repeat ((with_reducible refine EW.of ?_); cbv)))
    obtain ⟨S2, hS2⟩ : ∃ S : LI (Nat × Nat × List Ent3), S = ⟨fun x => [(12, .int .i64 x.1), (11, .int .i64 n), (38, .int .i64 k), (37, .int .i64 (A.len R)), (36, .sl 1 R), (9, .sl 5 X), (7, .ref 0 2 0 0), (0, .int .i64 T)], fun x => [some (.box 2 (.agg [.map 1, .int .i64 T])), some (.mp x.2.1 (G.l x.2.2))], fun x => 1 ≤ x.1 ∧ x.1 ≤ n + 1 ∧ OverI x.1 x.2.1 x.2.2, fun x => n + 1 - x.1⟩ := ⟨_, rfl⟩
    refine TW.loopM A (T0_ok hP) S2 _ rfl (1, c, []) ?_ ?_ ?_
    · rw [hS2]; exact ⟨Nat.le_refl _, Nat.le_add_left _ _, .inl ⟨rfl, rfl⟩⟩
    · rw [hS2]; cbv; exact ⟨G.pur _, rfl, hRp, hXp, trivial⟩
    rintro ⟨i, c2, m2⟩ hj l1 L1 e1 e2
    rw [hS2] at hj e1 e2
    dsimp only at hj e1 e2
    obtain ⟨hi1, hi2, hov⟩ := hj
    subst e1 e2
    cbv
    ((try cbv) <;> (repeat ((with_reducible refine EW.of ?_); cbv)))
    have hokm := hov.ok (by omega)
    refine bsplit (fun h => ?_) (fun h => ?_)
    · have hin : i ≤ n := le_nt h rfl rfl
      obtain ⟨c3, m3, ht, hov3, hag⟩ := over_tick (T := T) hov
      obtain ⟨ov, hov2⟩ : ∃ ov : List Int, ov = if T ≤ (i : Int) then [7] else [] := ⟨_, rfl⟩
      rw [← hov2] at ht
      have h42 := Tick42 A E F G hP [x7] (by decide) T c2 m2 60 (by omega) (by omega) hokm c3 m3 ov ht
      rw [← hX] at h42
      ((try cbv) <;> (repeat ((with_reducible refine EW.of ?_); cbv)))
      refine And.intro (Ent.of (hP ▸ Try.func42) rfl) ?_
      refine TC1.call [0, 1] h42 ?_
      cbv
      (repeat (first | exact trivial | refine And.intro (G.pur _) ?_ | refine And.intro hXp ?_ | refine And.intro hRp ?_ | refine And.intro (Emb.Pur _ _) ?_ | refine And.intro (inc_eq A (by omega)) ?_ | refine And.intro rfl ?_))
      ((try cbv) <;> (repeat ((with_reducible refine EW.of ?_); cbv)))
      have hv : A.bnot (A.beq (A.eq (A.len (E.int.l ov)) 1) (A.le T i)) = false := by
        rw [A.ok_bnot, A.ok_beq, A.ok_eq, A.ok_len, A.ok_le, E.int.len, hov2]
        by_cases h : T ≤ (i : Int) <;> simp [h]
      refine bno hv ?_
      cbv
      have h44 := Age44 A hP T c3 (G.l m3) 7 i (G.keys _ _) (G.pur _) (by rw [G.ok, age_ent, hag])
      refine And.intro (Ent.of (hP ▸ Try.func44) rfl) ?_
      refine TC1.call [0, 1] h44 ?_
      cbv
      (repeat (first | exact trivial | refine And.intro (G.pur _) ?_ | refine And.intro hXp ?_ | refine And.intro hRp ?_ | refine And.intro (Emb.Pur _ _) ?_ | refine And.intro (inc_eq A (by omega)) ?_ | refine And.intro rfl ?_))
      ((try cbv) <;> (repeat ((with_reducible refine EW.of ?_); cbv)))
      (first | refine bno (neF rfl) ?_ | refine bno (nbF rfl) ?_)
      ((try cbv) <;> (repeat ((with_reducible refine EW.of ?_); cbv)))
      refine LM.of (i + 1, c3, m3) rfl ?_ ?_ ?_
      · rw [hS2]; exact ⟨Nat.le_add_left _ _, by show i + 1 ≤ n + 1; omega, hov3⟩
      · rw [hS2]; show n + 1 - (i + 1) < n + 1 - i; omega
      · rw [hS2]
        cbv
        (repeat (first | exact trivial | refine And.intro (G.pur _) ?_ | refine And.intro hXp ?_ | refine And.intro hRp ?_ | refine And.intro (Emb.Pur _ _) ?_ | refine And.intro (inc_eq A (by omega)) ?_ | refine And.intro rfl ?_))
    · have h42 := Tick42 A E F G hP [] (by decide) T c2 m2 60 (by omega) (by omega) hokm c2 [] [] (over_none ..)
      rw [F.l.nil, E.int.nil] at h42
      have h44 := Age44 A hP T c2 (G.l []) 7 0 (G.keys _ _) (G.pur _) (by rw [hG0]; rfl)
      ((try cbv) <;> (repeat ((with_reducible refine EW.of ?_); cbv)))
      refine And.intro (Ent.of (hP ▸ Try.func42) rfl) ?_
      refine TC1.call [0, 1] h42 ?_
      cbv
      (repeat (first | exact trivial | refine And.intro (G.pur _) ?_ | refine And.intro hXp ?_ | refine And.intro hRp ?_ | refine And.intro (Emb.Pur _ _) ?_ | refine And.intro (inc_eq A (by omega)) ?_ | refine And.intro rfl ?_))
      (repeat (first | refine And.intro (Pur.mk rfl) ?_ | refine And.intro (G.pur _) ?_))
      ((try cbv) <;> (repeat ((with_reducible refine EW.of ?_); cbv)))
      refine bno (neF (A.ok_len [])) ?_
      cbv
      refine And.intro (Ent.of (hP ▸ Try.func44) rfl) ?_
      refine TC1.call [0, 1] h44 ?_
      cbv
      (repeat (first | exact trivial | refine And.intro (G.pur _) ?_ | refine And.intro hXp ?_ | refine And.intro hRp ?_ | refine And.intro (Emb.Pur _ _) ?_ | refine And.intro (inc_eq A (by omega)) ?_ | refine And.intro rfl ?_))
      ((try cbv) <;> (repeat ((with_reducible refine EW.of ?_); cbv)))
      (first | refine bno (neF rfl) ?_ | refine bno (nbF rfl) ?_)
      ((try cbv) <;> (repeat ((with_reducible refine EW.of ?_); cbv)))
      refine LM.of (k + 1, c2) rfl ?_ ?_ ?_
      · rw [hS]; show k + 1 ≤ 2; omega
      · rw [hS]; show 2 - (k + 1) < 2 - k; omega
      · rw [hS]
        cbv
        (repeat (first | exact trivial | refine And.intro (G.pur _) ?_ | refine And.intro hXp ?_ | refine And.intro hRp ?_ | refine And.intro (Emb.Pur _ _) ?_ | refine And.intro (inc_eq A (by omega)) ?_ | refine And.intro rfl ?_))
  · ((try cbv) <;> (repeat ((with_reducible refine EW.of ?_); cbv)))
    (refine ⟨Ent.of (hP ▸ Try.func35) rfl, ?_⟩; refine TC.pureE h35 ?_; cbv; (repeat (first | exact trivial | refine And.intro (Emb.Pur _ _) ?_ | refine And.intro rfl ?_ | refine And.intro (Pur.mk rfl) ?_ | refine And.intro (Pur.mk (by assumption)) ?_)); ((try cbv) <;> (repeat ((with_reducible refine EW.of ?_); cbv))))
end Go.Proofs.Ytpjibokaeefhiaa
