import Derived.Test.YtpjibokaeefhiaaXf
/-! The reference's put. -/
namespace Go.Proofs.Ytpjibokaeefhiaa
open Go.Proofs.Ytpjibokaeefhiaa.Tw
theorem putAt_set (x : Tree) {ks : List Tree} {i : Nat} {t : Tree} (h : ks[i]? = some t) (p : List Nat) : putAt x ks (i :: p) = ks.set i (putX x t p) := by
  obtain ⟨a, b, c, kks⟩ := t
  cases p with
  | nil => rfl
  | cons j p => rw [putAt, h]; rfl
theorem okP_get {ks : List Tree} {i : Nat} {p : List Nat} (h : okP ks (i :: p)) : ∃ t, ks[i]? = some t ∧ (p = [] ∨ okP (kidsX t) p) := by
  cases p with
  | nil => exact ⟨_, List.getElem?_eq_getElem h, .inl rfl⟩
  | cons j p =>
    obtain ⟨a, b, c, kks, h1, h2⟩ := h
    exact ⟨_, h1, .inr h2⟩
set_option maxHeartbeats 4000000 in
theorem put64 (A : Ar) (E : Em) {P : Program} (hP : P = Try.prog) (x : Tree) (nx : Nat) (hwx : within nx x) : ∀ (p : List Nat) (n : Nat) (t : Tree), within n t → (p = [] ∨ okP (kidsX t) p) → TPure P 64 [E.tree.v t, .sl 1 (E.int.l (p.map Int.ofNat)), E.tree.v x] (E.tree.v (putX x t p)) := by
  have hcx := Copy80 A E hP nx x hwx
  obtain ⟨ix, kx, sx, kxs, hx⟩ : ∃ i k s ks, x = Tree.node i k s ks := by cases x; exact ⟨_, _, _, _, rfl⟩
  have eX : E.tree.v x = .agg [.int .i64 ix, .int .i64 kx, .str sx, .sl 4 (E.tree.l kxs)] := by rw [hx]; exact E.node ..
  rw [eX] at hcx ⊢
  have p3 : Tw.Pur [.int .i64 ix, .int .i64 kx, .str sx, .sl 4 (E.tree.l kxs)] := Pur.mk (by (repeat (first | exact rfl | exact Emb.purL _ _ | assumption | apply pur_cons | apply pur_sl | apply pur_slt | apply pur_agg | apply pur_tup)))
  intro p
  induction p with
  | nil =>
    intro n t _ _
    obtain ⟨i, kd, s, ks⟩ := t
    rw [show E.tree.v (putX x (.node i kd s ks) []) = E.tree.v x from rfl, eX, E.node, List.map_nil, E.int.nil]
    refine TPure.ofE A T0 (T0_ok hP) (hP ▸ Try.func64) rfl _ rfl (by simp) ?_
    cbv
    ((try cbv) <;> (repeat ((with_reducible refine EW.of ?_); cbv)))
    refine byes (show A.eq (A.len []) 0 = true by rw [A.ok_len]; exact eqT rfl) ?_
    ((try cbv) <;> (repeat ((with_reducible refine EW.of ?_); cbv)))
    (refine ⟨Ent.of (hP ▸ Try.func80) rfl, ?_⟩; refine TC.pureE hcx ?_; cbv; (repeat (first | exact trivial | refine And.intro (Emb.Pur _ _) ?_ | refine And.intro rfl ?_ | refine And.intro (Pur.mk rfl) ?_ | refine And.intro (Pur.mk (by assumption)) ?_)); ((try cbv) <;> (repeat ((with_reducible refine EW.of ?_); cbv))))
    exact ⟨Emb.Pur _ _, trivial⟩
  | cons i0 p ih =>
  intro n t hw hok
  obtain ⟨i, kd, s, ks⟩ := t
  have hok : okP ks (i0 :: p) := hok.resolve_left (by simp)
  obtain ⟨t0, ht0, hok0⟩ := okP_get hok
  have hR := putAt_set x ht0 p
  obtain ⟨R, hRR⟩ : ∃ R, R = putAt x ks (i0 :: p) := ⟨_, rfl⟩
  obtain ⟨m, rfl⟩ : ∃ m, n = m + 1 := by
    cases n with
    | zero => exact hw.elim
    | succ m => exact ⟨m, rfl⟩
  have ih0 := ih m t0 (hw.2 t0 (List.mem_of_getElem? ht0)) hok0
  have hcp := Copy80 A E hP m
  rw [show E.tree.v (putX x (.node i kd s ks) (i0 :: p)) = .agg [.int .i64 i, .int .i64 kd, .str s, .sl 4 (E.tree.l R)] from by rw [hRR]; exact E.node ..]
  rw [← hRR] at hR
  have hpi : E.int.l ((i0 :: p).map Int.ofNat) = .int .i64 (Int.ofNat i0) :: E.int.l (p.map Int.ofNat) := by rw [List.map_cons, E.int.cons, E.iv]
  rw [hpi]
  obtain ⟨pi, hpi2⟩ : ∃ l, l = E.int.l (p.map Int.ofNat) := ⟨_, rfl⟩
  rw [← hpi2] at ih0 ⊢
  have hpip0 : Tw.Pur pi := by rw [hpi2]; exact Emb.Pur _ _
  have hpip : Tw.Pur (.int .i64 (Int.ofNat i0) :: pi) := ⟨by have := hpip0.h; simpa [purL, AV.pur] using this⟩
  have hll := E.tree.len ks
  have hwl := hw.len'
  have hlk : A.len (E.tree.l ks) = (ks.length : Int) := by rw [A.ok_len, hll]
  rw [E.node]
  have p2 : Tw.Pur [.int .i64 i, .int .i64 kd, .str s, .sl 4 (E.tree.l ks)] := Pur.mk (by (repeat (first | exact rfl | exact Emb.purL _ _ | assumption | apply pur_cons | apply pur_sl | apply pur_slt | apply pur_agg | apply pur_tup)))
  refine TPure.ofE A T0 (T0_ok hP) (hP ▸ Try.func64) rfl _ rfl (by simp) ?_
  cbv
  ((try cbv) <;> (repeat ((with_reducible refine EW.of ?_); cbv)))
  refine bno (show A.eq (A.len (.int .i64 (Int.ofNat i0) :: pi)) 0 = false by rw [A.ok_len]; exact eqF (by simp; omega)) ?_
  ((try cbv) <;> (repeat ((with_reducible refine EW.of ?_); cbv)))
  obtain ⟨S, hS⟩ : ∃ S : LI (Nat × Option (Nat × List Tree)), S = ⟨fun x => [(8, .int .i64 x.1), (7, .ref 1 4 0 0), (6, .ref 0 4 0 0), (5, .imm [.int .i64 ix, .int .i64 kx, .str sx, .sl 4 (E.tree.l kxs)]), (3, .imm [.int .i64 i, .int .i64 kd, .str s, .sl 4 (E.tree.l ks)]), (1, .sl 1 (.int .i64 (i0 : Int) :: pi))],
    fun x => [some (.box 4 (.agg [.int .i64 0, .int .i64 0, .str ⟨#[]⟩, .nils])), some (.box 4 (.agg [.int .i64 i, .int .i64 kd, .str s, rowT 2 x.2]))] ++ stT E x.2, fun y => y.1 ≤ ks.length ∧ okT y.2 ∧ outT y.2 = R.take y.1, fun x => ks.length - x.1⟩ := ⟨_, rfl⟩
  refine TW.loopM A (T0_ok hP) S _ rfl (0, none) ?_ ?_ ?_
  · rw [hS]; exact ⟨Nat.zero_le _, trivial, rfl⟩
  · rw [hS]
    cbv
    (repeat (first | exact trivial | refine And.intro (Emb.Pur _ _) ?_ | refine And.intro rfl ?_ | refine And.intro p2 ?_ | refine And.intro p3 ?_ | refine And.intro hpip ?_ | refine And.intro (inc_eq A (by omega)) ?_))
  rintro ⟨j, o⟩ hj l1 L1 e1 e2
  rw [hS] at hj e1 e2
  dsimp only at hj e1 e2
  obtain ⟨hj, hok, hout⟩ := hj
  subst e1
  obtain ⟨lo, hlo⟩ : ∃ l, l = outT o := ⟨_, rfl⟩
  rw [← hlo] at hout
  cases o with
  | none =>
    dsimp only [stT, rowT, outT, okT] at e2 hok hlo ⊢
    subst e2
    cbv
    ((try cbv) <;> (repeat ((with_reducible refine EW.of ?_); cbv)))
    refine bsplit (fun h => ?_) (fun h => ?_)
    · have h : j < ks.length := lt_nt h rfl hlk
      obtain ⟨t', ht'⟩ : ∃ t', ks[j]? = some t' := ⟨_, List.getElem?_eq_getElem h⟩
      have hRj : R[j]? = some (if j = i0 then putX x t0 p else t') := by
        rw [hR]
        by_cases hji : j = i0
        · rw [if_pos hji, ← hji, List.getElem?_set_self h]
        · rw [if_neg hji, List.getElem?_set_ne (fun e => hji e.symm), ht']
      obtain ⟨y, hy⟩ : ∃ y, y = (if j = i0 then putX x t0 p else t') := ⟨_, rfl⟩
      rw [← hy] at hRj
      have htk : R.take (j + 1) = R.take j ++ [y] := by rw [List.take_add_one, hRj]; rfl
      have hRl : R.length = ks.length := by rw [hR, List.length_set]
      have c80 := hcp t' (hw.2 t' (List.mem_of_getElem? ht'))
      have hlol : lo.length = j := by rw [hout, List.length_take]; omega
      have hgt := E.tree.get ht'
      obtain ⟨i', k', s', ks', ht2⟩ : ∃ i k s ks, t' = Tree.node i k s ks := by cases t'; exact ⟨_, _, _, _, rfl⟩
      have eT : E.tree.v t' = .agg [.int .i64 i', .int .i64 k', .str s', .sl 4 (E.tree.l ks')] := by rw [ht2]; exact E.node ..
      rw [eT] at hgt c80
      obtain ⟨yi, yk, ys, yks, hy2⟩ : ∃ i k s ks, y = Tree.node i k s ks := by cases y; exact ⟨_, _, _, _, rfl⟩
      have hyy : E.tree.v y = .agg [.int .i64 yi, .int .i64 yk, .str ys, .sl 4 (E.tree.l yks)] := by rw [hy2]; exact E.node ..
      have p5 : Tw.Pur [.int .i64 yi, .int .i64 yk, .str ys, .sl 4 (E.tree.l yks)] := Pur.mk (by (repeat (first | exact rfl | exact Emb.purL _ _ | assumption | apply pur_cons | apply pur_sl | apply pur_slt | apply pur_agg | apply pur_tup)))
      obtain ⟨l9, hl9⟩ : ∃ d, d = lo ++ [y] := ⟨_, rfl⟩
      obtain ⟨q9, hq9⟩ : ∃ q, q = l9.length := ⟨_, rfl⟩
      have hlen9 : l9.length ≤ 1000001 := by rw [hl9]; simp; omega
      have p4 : Tw.Pur [.int .i64 i', .int .i64 k', .str s', .sl 4 (E.tree.l ks')] := Pur.mk (by (repeat (first | exact rfl | exact Emb.purL _ _ | assumption | apply pur_cons | apply pur_sl | apply pur_slt | apply pur_agg | apply pur_tup)))
      ((try cbv) <;> (repeat ((with_reducible refine EW.of ?_); cbv)))
      refine ⟨0, _, rfl, rfl, ?_⟩
      cbv
      ((try cbv) <;> (repeat ((with_reducible refine EW.of ?_); cbv)))
      refine bsplit (fun hi => ?_) (fun hi => ?_)
      · have hi : j = i0 := Int.ofNat_inj.1 (eq_t hi rfl rfl)
        have ht0' : t' = t0 := by rw [hi, ht0] at ht'; exact (Option.some.inj ht').symm
        have c64 := ih0
        rw [← ht0', eT, ht0', ← (show y = putX x t0 p by rw [hy, if_pos hi]), hyy] at c64
        ((try cbv) <;> (repeat ((with_reducible refine EW.of ?_); cbv)))
        (refine TW.drawP (A := A) [(9, [some (.box 4 (.agg [.int .i64 0, .int .i64 0, .str ⟨#[]⟩, .nils]))])] (T0_ok hP) (hP ▸ follows_mixed) (by cbv) rfl (by cbv) (by cbv) (by cbv) rfl rfl rfl ?_; cbv)
        refine ⟨j, _, rfl, hgt, ?_⟩
        cbv
        refine ⟨1, rfl, pi, rfl, by simp, ?_⟩
        cbv
        refine ⟨Ent.of (hP ▸ Try.func64) rfl, ?_⟩
        have hpa : purL [.agg [.int .i64 i', .int .i64 k', .str s', .sl 4 (E.tree.l ks')], .sl 1 pi, .agg [.int .i64 ix, .int .i64 kx, .str sx, .sl 4 (E.tree.l kxs)]] = true := by simp only [purL, AV.pur, hpip0.h, Emb.purL, Bool.and_self, Bool.and_true, Bool.true_and]
        refine ⟨_, ⟨TPure.adj c64 (by cbv; exact ⟨Emb.Pur _ _, hpip0, Emb.Pur _ _, trivial⟩), hpa⟩, ?_⟩
        cbv
        refine ⟨rfl, ?_⟩
        ((try cbv) <;> (repeat ((with_reducible refine EW.of ?_); cbv)))
        first
          | refine ⟨⟨by rfl⟩, q9, E.tree.l l9, by rw [hq9, hl9, hlo]; first | done | rfl, by rw [hl9, hlo, List.nil_append, E.tree.cons, E.tree.nil, hyy]; first | done | rfl, Nat.zero_le _, by omega, by omega, ?_⟩
          | refine ⟨⟨by rfl⟩, q9, E.tree.l l9, by rw [hq9, hl9, hlo, hok]; simp, by rw [hl9, hlo, E.tree.app, E.tree.cons, E.tree.nil, hyy, List.take_of_length_le (by rw [E.tree.len, hok]; exact Nat.le_refl _)], by rw [E.tree.len, hok]; exact Nat.le_refl _, by omega, by omega, ?_⟩
        cbv
        ((try cbv) <;> (repeat ((with_reducible refine EW.of ?_); cbv)))
        refine LM.of (j + 1, some (q9, l9)) rfl ?_ ?_ ?_
        · rw [hS]; exact ⟨h, hq9, by show l9 = _; rw [htk, hl9, hout]⟩
        · rw [hS]; show ks.length - (j + 1) < ks.length - j; omega
        · rw [hS]
          cbv
          (repeat (first | exact trivial | refine And.intro (Emb.Pur _ _) ?_ | refine And.intro rfl ?_ | refine And.intro p2 ?_ | refine And.intro p3 ?_ | refine And.intro hpip ?_ | refine And.intro (inc_eq A (by omega)) ?_))
      · have hi : ¬ j = i0 := fun e => eq_f hi rfl rfl (by rw [e])
        have hyt : y = t' := by rw [hy, if_neg hi]
        have hyy : E.tree.v y = .agg [.int .i64 i', .int .i64 k', .str s', .sl 4 (E.tree.l ks')] := by rw [hyt]; exact eT
        ((try cbv) <;> (repeat ((with_reducible refine EW.of ?_); cbv)))
        (refine ⟨_, _, rfl, hgt, ?_⟩; cbv; ((try cbv) <;> (repeat ((with_reducible refine EW.of ?_); cbv))))
        (refine ⟨Ent.of (hP ▸ Try.func80) rfl, ?_⟩; refine TC.pureE c80 ?_; cbv; (repeat (first | exact trivial | refine And.intro (Emb.Pur _ _) ?_ | refine And.intro rfl ?_ | refine And.intro (Pur.mk rfl) ?_ | refine And.intro (Pur.mk (by assumption)) ?_)); ((try cbv) <;> (repeat ((with_reducible refine EW.of ?_); cbv))))
        first
          | refine ⟨⟨by rfl⟩, q9, E.tree.l l9, by rw [hq9, hl9, hlo]; first | done | rfl, by rw [hl9, hlo, List.nil_append, E.tree.cons, E.tree.nil, hyy]; first | done | rfl, Nat.zero_le _, by omega, by omega, ?_⟩
          | refine ⟨⟨by rfl⟩, q9, E.tree.l l9, by rw [hq9, hl9, hlo, hok]; simp, by rw [hl9, hlo, E.tree.app, E.tree.cons, E.tree.nil, hyy, List.take_of_length_le (by rw [E.tree.len, hok]; exact Nat.le_refl _)], by rw [E.tree.len, hok]; exact Nat.le_refl _, by omega, by omega, ?_⟩
        cbv
        ((try cbv) <;> (repeat ((with_reducible refine EW.of ?_); cbv)))
        refine LM.of (j + 1, some (q9, l9)) rfl ?_ ?_ ?_
        · rw [hS]; exact ⟨h, hq9, by show l9 = _; rw [htk, hl9, hout]⟩
        · rw [hS]; show ks.length - (j + 1) < ks.length - j; omega
        · rw [hS]
          cbv
          (repeat (first | exact trivial | refine And.intro (Emb.Pur _ _) ?_ | refine And.intro rfl ?_ | refine And.intro p2 ?_ | refine And.intro p3 ?_ | refine And.intro hpip ?_ | refine And.intro (inc_eq A (by omega)) ?_))
    · have h : ks.length ≤ j := lt_nf h rfl hlk
      rw [List.take_of_length_le (by rw [hR, List.length_set]; exact h)] at hout
      ((try cbv) <;> (repeat ((with_reducible refine EW.of ?_); cbv)))
      first
        | exact ⟨by rw [← hout, hlo]; exact E.tree.nil.symm, trivial⟩
        | exact ⟨by rw [← hout, hlo]; exact E.tree.cut hok, E.tree.Pur _, trivial⟩
  | some z =>
    obtain ⟨q, l⟩ := z
    dsimp only [stT, rowT, outT, okT] at e2 hok hlo ⊢
    subst e2
    cbv
    ((try cbv) <;> (repeat ((with_reducible refine EW.of ?_); cbv)))
    refine bsplit (fun h => ?_) (fun h => ?_)
    · have h : j < ks.length := lt_nt h rfl hlk
      obtain ⟨t', ht'⟩ : ∃ t', ks[j]? = some t' := ⟨_, List.getElem?_eq_getElem h⟩
      have hRj : R[j]? = some (if j = i0 then putX x t0 p else t') := by
        rw [hR]
        by_cases hji : j = i0
        · rw [if_pos hji, ← hji, List.getElem?_set_self h]
        · rw [if_neg hji, List.getElem?_set_ne (fun e => hji e.symm), ht']
      obtain ⟨y, hy⟩ : ∃ y, y = (if j = i0 then putX x t0 p else t') := ⟨_, rfl⟩
      rw [← hy] at hRj
      have htk : R.take (j + 1) = R.take j ++ [y] := by rw [List.take_add_one, hRj]; rfl
      have hRl : R.length = ks.length := by rw [hR, List.length_set]
      have c80 := hcp t' (hw.2 t' (List.mem_of_getElem? ht'))
      have hlol : lo.length = j := by rw [hout, List.length_take]; omega
      have hgt := E.tree.get ht'
      obtain ⟨i', k', s', ks', ht2⟩ : ∃ i k s ks, t' = Tree.node i k s ks := by cases t'; exact ⟨_, _, _, _, rfl⟩
      have eT : E.tree.v t' = .agg [.int .i64 i', .int .i64 k', .str s', .sl 4 (E.tree.l ks')] := by rw [ht2]; exact E.node ..
      rw [eT] at hgt c80
      obtain ⟨yi, yk, ys, yks, hy2⟩ : ∃ i k s ks, y = Tree.node i k s ks := by cases y; exact ⟨_, _, _, _, rfl⟩
      have hyy : E.tree.v y = .agg [.int .i64 yi, .int .i64 yk, .str ys, .sl 4 (E.tree.l yks)] := by rw [hy2]; exact E.node ..
      have p5 : Tw.Pur [.int .i64 yi, .int .i64 yk, .str ys, .sl 4 (E.tree.l yks)] := Pur.mk (by (repeat (first | exact rfl | exact Emb.purL _ _ | assumption | apply pur_cons | apply pur_sl | apply pur_slt | apply pur_agg | apply pur_tup)))
      obtain ⟨l9, hl9⟩ : ∃ d, d = lo ++ [y] := ⟨_, rfl⟩
      obtain ⟨q9, hq9⟩ : ∃ q, q = l9.length := ⟨_, rfl⟩
      have hlen9 : l9.length ≤ 1000001 := by rw [hl9]; simp; omega
      have p4 : Tw.Pur [.int .i64 i', .int .i64 k', .str s', .sl 4 (E.tree.l ks')] := Pur.mk (by (repeat (first | exact rfl | exact Emb.purL _ _ | assumption | apply pur_cons | apply pur_sl | apply pur_slt | apply pur_agg | apply pur_tup)))
      ((try cbv) <;> (repeat ((with_reducible refine EW.of ?_); cbv)))
      refine ⟨0, _, rfl, rfl, ?_⟩
      cbv
      ((try cbv) <;> (repeat ((with_reducible refine EW.of ?_); cbv)))
      refine bsplit (fun hi => ?_) (fun hi => ?_)
      · have hi : j = i0 := Int.ofNat_inj.1 (eq_t hi rfl rfl)
        have ht0' : t' = t0 := by rw [hi, ht0] at ht'; exact (Option.some.inj ht').symm
        have c64 := ih0
        rw [← ht0', eT, ht0', ← (show y = putX x t0 p by rw [hy, if_pos hi]), hyy] at c64
        ((try cbv) <;> (repeat ((with_reducible refine EW.of ?_); cbv)))
        (refine TW.drawP (A := A) [(9, [some (.box 4 (.agg [.int .i64 0, .int .i64 0, .str ⟨#[]⟩, .nils]))])] (T0_ok hP) (hP ▸ follows_mixed) (by cbv) rfl (by cbv) (by cbv) (by cbv) rfl rfl rfl ?_; cbv)
        refine ⟨j, _, rfl, hgt, ?_⟩
        cbv
        refine ⟨1, rfl, pi, rfl, by simp, ?_⟩
        cbv
        refine ⟨Ent.of (hP ▸ Try.func64) rfl, ?_⟩
        have hpa : purL [.agg [.int .i64 i', .int .i64 k', .str s', .sl 4 (E.tree.l ks')], .sl 1 pi, .agg [.int .i64 ix, .int .i64 kx, .str sx, .sl 4 (E.tree.l kxs)]] = true := by simp only [purL, AV.pur, hpip0.h, Emb.purL, Bool.and_self, Bool.and_true, Bool.true_and]
        refine ⟨_, ⟨TPure.adj c64 (by cbv; exact ⟨Emb.Pur _ _, hpip0, Emb.Pur _ _, trivial⟩), hpa⟩, ?_⟩
        cbv
        refine ⟨rfl, ?_⟩
        ((try cbv) <;> (repeat ((with_reducible refine EW.of ?_); cbv)))
        first
          | refine ⟨⟨by rfl⟩, q9, E.tree.l l9, by rw [hq9, hl9, hlo]; first | done | rfl, by rw [hl9, hlo, List.nil_append, E.tree.cons, E.tree.nil, hyy]; first | done | rfl, Nat.zero_le _, by omega, by omega, ?_⟩
          | refine ⟨⟨by rfl⟩, q9, E.tree.l l9, by rw [hq9, hl9, hlo, hok]; simp, by rw [hl9, hlo, E.tree.app, E.tree.cons, E.tree.nil, hyy, List.take_of_length_le (by rw [E.tree.len, hok]; exact Nat.le_refl _)], by rw [E.tree.len, hok]; exact Nat.le_refl _, by omega, by omega, ?_⟩
        cbv
        ((try cbv) <;> (repeat ((with_reducible refine EW.of ?_); cbv)))
        refine LM.of (j + 1, some (q9, l9)) rfl ?_ ?_ ?_
        · rw [hS]; exact ⟨h, hq9, by show l9 = _; rw [htk, hl9, hout]⟩
        · rw [hS]; show ks.length - (j + 1) < ks.length - j; omega
        · rw [hS]
          cbv
          (repeat (first | exact trivial | refine And.intro (Emb.Pur _ _) ?_ | refine And.intro rfl ?_ | refine And.intro p2 ?_ | refine And.intro p3 ?_ | refine And.intro hpip ?_ | refine And.intro (inc_eq A (by omega)) ?_))
      · have hi : ¬ j = i0 := fun e => eq_f hi rfl rfl (by rw [e])
        have hyt : y = t' := by rw [hy, if_neg hi]
        have hyy : E.tree.v y = .agg [.int .i64 i', .int .i64 k', .str s', .sl 4 (E.tree.l ks')] := by rw [hyt]; exact eT
        ((try cbv) <;> (repeat ((with_reducible refine EW.of ?_); cbv)))
        (refine ⟨_, _, rfl, hgt, ?_⟩; cbv; ((try cbv) <;> (repeat ((with_reducible refine EW.of ?_); cbv))))
        (refine ⟨Ent.of (hP ▸ Try.func80) rfl, ?_⟩; refine TC.pureE c80 ?_; cbv; (repeat (first | exact trivial | refine And.intro (Emb.Pur _ _) ?_ | refine And.intro rfl ?_ | refine And.intro (Pur.mk rfl) ?_ | refine And.intro (Pur.mk (by assumption)) ?_)); ((try cbv) <;> (repeat ((with_reducible refine EW.of ?_); cbv))))
        first
          | refine ⟨⟨by rfl⟩, q9, E.tree.l l9, by rw [hq9, hl9, hlo]; first | done | rfl, by rw [hl9, hlo, List.nil_append, E.tree.cons, E.tree.nil, hyy]; first | done | rfl, Nat.zero_le _, by omega, by omega, ?_⟩
          | refine ⟨⟨by rfl⟩, q9, E.tree.l l9, by rw [hq9, hl9, hlo, hok]; simp, by rw [hl9, hlo, E.tree.app, E.tree.cons, E.tree.nil, hyy, List.take_of_length_le (by rw [E.tree.len, hok]; exact Nat.le_refl _)], by rw [E.tree.len, hok]; exact Nat.le_refl _, by omega, by omega, ?_⟩
        cbv
        ((try cbv) <;> (repeat ((with_reducible refine EW.of ?_); cbv)))
        refine LM.of (j + 1, some (q9, l9)) rfl ?_ ?_ ?_
        · rw [hS]; exact ⟨h, hq9, by show l9 = _; rw [htk, hl9, hout]⟩
        · rw [hS]; show ks.length - (j + 1) < ks.length - j; omega
        · rw [hS]
          cbv
          (repeat (first | exact trivial | refine And.intro (Emb.Pur _ _) ?_ | refine And.intro rfl ?_ | refine And.intro p2 ?_ | refine And.intro p3 ?_ | refine And.intro hpip ?_ | refine And.intro (inc_eq A (by omega)) ?_))
    · have h : ks.length ≤ j := lt_nf h rfl hlk
      rw [List.take_of_length_le (by rw [hR, List.length_set]; exact h)] at hout
      ((try cbv) <;> (repeat ((with_reducible refine EW.of ?_); cbv)))
      first
        | exact ⟨by rw [← hout, hlo]; exact E.tree.nil.symm, trivial⟩
        | exact ⟨by rw [← hout, hlo]; exact E.tree.cut hok, E.tree.Pur _, trivial⟩
end Go.Proofs.Ytpjibokaeefhiaa
