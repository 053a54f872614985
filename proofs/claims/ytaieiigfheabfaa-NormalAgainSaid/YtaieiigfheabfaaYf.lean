import Derived.Test.YtaieiigfheabfaaYd
/-! The reference's Copy. -/
namespace Go.Proofs.Ytaieiigfheabfaa
open Go.Proofs.Ytaieiigfheabfaa.Tw
def stT (E : Em) : Option (Nat × List Tree) → Store
  | none => []
  | some (_, l) => [some (.arr 4 (E.tree.l l))]
def rowT (p : Nat) : Option (Nat × List Tree) → AV
  | none => .nils
  | some (m, _) => .row p 4 0 m
def outT : Option (Nat × List Tree) → List Tree
  | none => []
  | some (_, l) => l
def okT : Option (Nat × List Tree) → Prop
  | none => True
  | some (m, l) => m = l.length
set_option maxHeartbeats 4000000 in
theorem Copy80 (A : Ar) (E : Em) {P : Program} (hP : P = Try.prog) : ∀ (n : Nat) (t : Tree), within n t → TPure P 44 [E.tree.v t] (E.tree.v t) := by
  intro n
  induction n with
  | zero => exact fun _ h => h.elim
  | succ n ih =>
  intro t hw
  obtain ⟨i, kd, s, ks⟩ := t
  have hll := E.tree.len ks
  have hwl := hw.len'
  have hlk : A.len (E.tree.l ks) = (ks.length : Int) := by rw [A.ok_len, hll]
  rw [E.node]
  have p2 : Tw.Pur [.int .i64 i, .int .i64 kd, .str s, .sl 4 (E.tree.l ks)] := Pur.mk (by (repeat (first | exact rfl | exact Emb.purL _ _ | assumption | apply pur_cons | apply pur_sl | apply pur_slt | apply pur_agg | apply pur_tup)))
  refine TPure.ofE A T0 (T0_ok hP) (hP ▸ Try.func44) rfl _ rfl (by simp) ?_
  cbv
  ((try cbv) <;> (repeat ((with_reducible refine EW.of ?_); cbv)))
  obtain ⟨S, hS⟩ : ∃ S : LI (Nat × Option (Nat × List Tree)), S = ⟨fun x => [(4, .int .i64 x.1), (3, .ref 1 4 0 0), (2, .ref 0 4 0 0), (1, .imm [.int .i64 i, .int .i64 kd, .str s, .sl 4 (E.tree.l ks)])],
    fun x => [some (.box 4 (.agg [.int .i64 0, .int .i64 0, .str ⟨#[]⟩, .nils])), some (.box 4 (.agg [.int .i64 i, .int .i64 kd, .str s, rowT 2 x.2]))] ++ stT E x.2, fun y => y.1 ≤ ks.length ∧ okT y.2 ∧ outT y.2 = ks.take y.1, fun x => ks.length - x.1⟩ := ⟨_, rfl⟩
  refine TW.loopM A (T0_ok hP) S _ rfl (0, none) ?_ ?_ ?_
  · rw [hS]; exact ⟨Nat.zero_le _, trivial, rfl⟩
  · rw [hS]
    cbv
    (repeat (first | exact trivial | refine And.intro (Emb.Pur _ _) ?_ | refine And.intro rfl ?_ | refine And.intro p2 ?_ | refine And.intro (inc_eq A (by omega)) ?_))
  rintro ⟨j, o⟩ hj l1 L1 e1 e2
  rw [hS] at hj e1 e2
  dsimp only at hj e1 e2
  obtain ⟨hj, hok, hout⟩ := hj
  subst e1
  obtain ⟨lo, hlo⟩ : ∃ l, l = outT o := ⟨_, rfl⟩
  rw [← hlo] at hout
  cases o with
  | none =>
    dsimp only [stT, rowT, outT, okT] at e2 hok hlo ⊢
    subst e2
    cbv
    ((try cbv) <;> (repeat ((with_reducible refine EW.of ?_); cbv)))
    refine bsplit (fun h => ?_) (fun h => ?_)
    · have h : j < ks.length := lt_nt h rfl hlk
      obtain ⟨t', ht'⟩ : ∃ t', ks[j]? = some t' := ⟨_, List.getElem?_eq_getElem h⟩
      have htk : ks.take (j + 1) = ks.take j ++ [t'] := by rw [List.take_add_one, ht']; rfl
      have c80 := ih t' (hw.2 t' (List.mem_of_getElem? ht'))
      have hlol : lo.length = j := by rw [hout, List.length_take]; omega
      have hgt := E.tree.get ht'
      obtain ⟨y, hy⟩ : ∃ y, y = t' := ⟨_, rfl⟩
      obtain ⟨i', k', s', ks'⟩ := t'
      have hyy : E.tree.v y = .agg [.int .i64 i', .int .i64 k', .str s', .sl 4 (E.tree.l ks')] := by rw [hy]; exact E.node i' k' s' ks'
      rw [E.node] at hgt c80
      obtain ⟨l9, hl9⟩ : ∃ d, d = lo ++ [y] := ⟨_, rfl⟩
      obtain ⟨q9, hq9⟩ : ∃ q, q = l9.length := ⟨_, rfl⟩
      have hlen9 : l9.length ≤ 1000001 := by rw [hl9]; simp; omega
      have p4 : Tw.Pur [.int .i64 i', .int .i64 k', .str s', .sl 4 (E.tree.l ks')] := Pur.mk (by (repeat (first | exact rfl | exact Emb.purL _ _ | assumption | apply pur_cons | apply pur_sl | apply pur_slt | apply pur_agg | apply pur_tup)))
      ((try cbv) <;> (repeat ((with_reducible refine EW.of ?_); cbv)))
      (refine ⟨_, _, rfl, hgt, ?_⟩; cbv; ((try cbv) <;> (repeat ((with_reducible refine EW.of ?_); cbv))))
      (refine ⟨Ent.of (hP ▸ Try.func44) rfl, ?_⟩; refine TC.pureE c80 ?_; cbv; (repeat (first | exact trivial | refine And.intro (Emb.Pur _ _) ?_ | refine And.intro rfl ?_ | refine And.intro (Pur.mk rfl) ?_ | refine And.intro (Pur.mk (by assumption)) ?_)); ((try cbv) <;> (repeat ((with_reducible refine EW.of ?_); cbv))))
      first
        | refine ⟨⟨by rfl⟩, q9, E.tree.l l9, by rw [hq9, hl9, hlo]; first | done | rfl, by rw [hl9, hlo, List.nil_append, E.tree.cons, E.tree.nil, hyy]; first | done | rfl, Nat.zero_le _, by omega, by omega, ?_⟩
        | refine ⟨⟨by rfl⟩, q9, E.tree.l l9, by rw [hq9, hl9, hlo, hok]; simp, by rw [hl9, hlo, E.tree.app, E.tree.cons, E.tree.nil, hyy, List.take_of_length_le (by rw [E.tree.len, hok]; exact Nat.le_refl _)], by rw [E.tree.len, hok]; exact Nat.le_refl _, by omega, by omega, ?_⟩
      cbv
      ((try cbv) <;> (repeat ((with_reducible refine EW.of ?_); cbv)))
      refine LM.of (j + 1, some (q9, l9)) rfl ?_ ?_ ?_
      · rw [hS]; exact ⟨h, hq9, by show l9 = _; rw [htk, hl9, hout, hy]⟩
      · rw [hS]; show ks.length - (j + 1) < ks.length - j; omega
      · rw [hS]
        cbv
        (repeat (first | exact trivial | refine And.intro (Emb.Pur _ _) ?_ | refine And.intro rfl ?_ | refine And.intro p2 ?_ | refine And.intro (inc_eq A (by omega)) ?_))
    · have h : ks.length ≤ j := lt_nf h rfl hlk
      rw [List.take_of_length_le h] at hout
      ((try cbv) <;> (repeat ((with_reducible refine EW.of ?_); cbv)))
      first
        | exact ⟨by rw [← hout, hlo]; exact E.tree.nil.symm, trivial⟩
        | exact ⟨by rw [← hout, hlo]; exact E.tree.cut hok, E.tree.Pur _, trivial⟩
  | some z =>
    obtain ⟨q, l⟩ := z
    dsimp only [stT, rowT, outT, okT] at e2 hok hlo ⊢
    subst e2
    cbv
    ((try cbv) <;> (repeat ((with_reducible refine EW.of ?_); cbv)))
    refine bsplit (fun h => ?_) (fun h => ?_)
    · have h : j < ks.length := lt_nt h rfl hlk
      obtain ⟨t', ht'⟩ : ∃ t', ks[j]? = some t' := ⟨_, List.getElem?_eq_getElem h⟩
      have htk : ks.take (j + 1) = ks.take j ++ [t'] := by rw [List.take_add_one, ht']; rfl
      have c80 := ih t' (hw.2 t' (List.mem_of_getElem? ht'))
      have hlol : lo.length = j := by rw [hout, List.length_take]; omega
      have hgt := E.tree.get ht'
      obtain ⟨y, hy⟩ : ∃ y, y = t' := ⟨_, rfl⟩
      obtain ⟨i', k', s', ks'⟩ := t'
      have hyy : E.tree.v y = .agg [.int .i64 i', .int .i64 k', .str s', .sl 4 (E.tree.l ks')] := by rw [hy]; exact E.node i' k' s' ks'
      rw [E.node] at hgt c80
      obtain ⟨l9, hl9⟩ : ∃ d, d = lo ++ [y] := ⟨_, rfl⟩
      obtain ⟨q9, hq9⟩ : ∃ q, q = l9.length := ⟨_, rfl⟩
      have hlen9 : l9.length ≤ 1000001 := by rw [hl9]; simp; omega
      have p4 : Tw.Pur [.int .i64 i', .int .i64 k', .str s', .sl 4 (E.tree.l ks')] := Pur.mk (by (repeat (first | exact rfl | exact Emb.purL _ _ | assumption | apply pur_cons | apply pur_sl | apply pur_slt | apply pur_agg | apply pur_tup)))
      ((try cbv) <;> (repeat ((with_reducible refine EW.of ?_); cbv)))
      (refine ⟨_, _, rfl, hgt, ?_⟩; cbv; ((try cbv) <;> (repeat ((with_reducible refine EW.of ?_); cbv))))
      (refine ⟨Ent.of (hP ▸ Try.func44) rfl, ?_⟩; refine TC.pureE c80 ?_; cbv; (repeat (first | exact trivial | refine And.intro (Emb.Pur _ _) ?_ | refine And.intro rfl ?_ | refine And.intro (Pur.mk rfl) ?_ | refine And.intro (Pur.mk (by assumption)) ?_)); ((try cbv) <;> (repeat ((with_reducible refine EW.of ?_); cbv))))
      first
        | refine ⟨⟨by rfl⟩, q9, E.tree.l l9, by rw [hq9, hl9, hlo]; first | done | rfl, by rw [hl9, hlo, List.nil_append, E.tree.cons, E.tree.nil, hyy]; first | done | rfl, Nat.zero_le _, by omega, by omega, ?_⟩
        | refine ⟨⟨by rfl⟩, q9, E.tree.l l9, by rw [hq9, hl9, hlo, hok]; simp, by rw [hl9, hlo, E.tree.app, E.tree.cons, E.tree.nil, hyy, List.take_of_length_le (by rw [E.tree.len, hok]; exact Nat.le_refl _)], by rw [E.tree.len, hok]; exact Nat.le_refl _, by omega, by omega, ?_⟩
      cbv
      ((try cbv) <;> (repeat ((with_reducible refine EW.of ?_); cbv)))
      refine LM.of (j + 1, some (q9, l9)) rfl ?_ ?_ ?_
      · rw [hS]; exact ⟨h, hq9, by show l9 = _; rw [htk, hl9, hout, hy]⟩
      · rw [hS]; show ks.length - (j + 1) < ks.length - j; omega
      · rw [hS]
        cbv
        (repeat (first | exact trivial | refine And.intro (Emb.Pur _ _) ?_ | refine And.intro rfl ?_ | refine And.intro p2 ?_ | refine And.intro (inc_eq A (by omega)) ?_))
    · have h : ks.length ≤ j := lt_nf h rfl hlk
      rw [List.take_of_length_le h] at hout
      ((try cbv) <;> (repeat ((with_reducible refine EW.of ?_); cbv)))
      first
        | exact ⟨by rw [← hout, hlo]; exact E.tree.nil.symm, trivial⟩
        | exact ⟨by rw [← hout, hlo]; exact E.tree.cut hok, E.tree.Pur _, trivial⟩
set_option maxHeartbeats 4000000 in
/-- The row of kids of a copy is a row of ours. -/
theorem Copy81 (A : Ar) (E : Em) {P : Program} (hP : P = Try.prog) (n : Nat) (i kd : Int) (s : ByteArray) (ks : List Tree) (hw : within (n + 1) (.node i kd s ks)) (hne : ks ≠ []) : TC1 P 44 [E.tree.v (.node i kd s ks)] [] (.agg [.int .i64 i, .int .i64 kd, .str s, .row 0 4 0 ks.length]) [some (.arr 4 (E.tree.l ks))] := by
  have ih := Copy80 A E hP n
  have hpos := List.length_pos_iff.2 hne
  obtain ⟨nk, hnk⟩ : ∃ n, n = ks.length := ⟨_, rfl⟩
  rw [← hnk]
  have hll := E.tree.len ks
  have hwl := hw.len'
  have hlk : A.len (E.tree.l ks) = (ks.length : Int) := by rw [A.ok_len, hll]
  rw [E.node]
  have p2 : Tw.Pur [.int .i64 i, .int .i64 kd, .str s, .sl 4 (E.tree.l ks)] := Pur.mk (by (repeat (first | exact rfl | exact Emb.purL _ _ | assumption | apply pur_cons | apply pur_sl | apply pur_slt | apply pur_agg | apply pur_tup)))
  refine TC1.of A _ _ T0 (T0_ok hP) (hP ▸ Try.func44) rfl _ rfl (by simp) ?_
  cbv
  ((try cbv) <;> (repeat ((with_reducible refine EW.of ?_); cbv)))
  obtain ⟨S, hS⟩ : ∃ S : LI (Nat × Option (Nat × List Tree)), S = ⟨fun x => [(4, .int .i64 x.1), (3, .ref 1 4 0 0), (2, .ref 0 4 0 0), (1, .imm [.int .i64 i, .int .i64 kd, .str s, .sl 4 (E.tree.l ks)])],
    fun x => [some (.box 4 (.agg [.int .i64 0, .int .i64 0, .str ⟨#[]⟩, .nils])), some (.box 4 (.agg [.int .i64 i, .int .i64 kd, .str s, rowT 2 x.2]))] ++ stT E x.2, fun y => y.1 ≤ ks.length ∧ okT y.2 ∧ outT y.2 = ks.take y.1, fun x => ks.length - x.1⟩ := ⟨_, rfl⟩
  refine TW.loopM A (T0_ok hP) S _ rfl (0, none) ?_ ?_ ?_
  · rw [hS]; exact ⟨Nat.zero_le _, trivial, rfl⟩
  · rw [hS]
    cbv
    (repeat (first | exact trivial | refine And.intro (Emb.Pur _ _) ?_ | refine And.intro rfl ?_ | refine And.intro p2 ?_ | refine And.intro (inc_eq A (by omega)) ?_))
  rintro ⟨j, o⟩ hj l1 L1 e1 e2
  rw [hS] at hj e1 e2
  dsimp only at hj e1 e2
  obtain ⟨hj, hok, hout⟩ := hj
  subst e1
  obtain ⟨lo, hlo⟩ : ∃ l, l = outT o := ⟨_, rfl⟩
  rw [← hlo] at hout
  cases o with
  | none =>
    dsimp only [stT, rowT, outT, okT] at e2 hok hlo ⊢
    subst e2
    cbv
    ((try cbv) <;> (repeat ((with_reducible refine EW.of ?_); cbv)))
    refine bsplit (fun h => ?_) (fun h => ?_)
    · have h : j < ks.length := lt_nt h rfl hlk
      obtain ⟨t', ht'⟩ : ∃ t', ks[j]? = some t' := ⟨_, List.getElem?_eq_getElem h⟩
      have htk : ks.take (j + 1) = ks.take j ++ [t'] := by rw [List.take_add_one, ht']; rfl
      have c80 := ih t' (hw.2 t' (List.mem_of_getElem? ht'))
      have hlol : lo.length = j := by rw [hout, List.length_take]; omega
      have hgt := E.tree.get ht'
      obtain ⟨y, hy⟩ : ∃ y, y = t' := ⟨_, rfl⟩
      obtain ⟨i', k', s', ks'⟩ := t'
      have hyy : E.tree.v y = .agg [.int .i64 i', .int .i64 k', .str s', .sl 4 (E.tree.l ks')] := by rw [hy]; exact E.node i' k' s' ks'
      rw [E.node] at hgt c80
      obtain ⟨l9, hl9⟩ : ∃ d, d = lo ++ [y] := ⟨_, rfl⟩
      obtain ⟨q9, hq9⟩ : ∃ q, q = l9.length := ⟨_, rfl⟩
      have hlen9 : l9.length ≤ 1000001 := by rw [hl9]; simp; omega
      have p4 : Tw.Pur [.int .i64 i', .int .i64 k', .str s', .sl 4 (E.tree.l ks')] := Pur.mk (by (repeat (first | exact rfl | exact Emb.purL _ _ | assumption | apply pur_cons | apply pur_sl | apply pur_slt | apply pur_agg | apply pur_tup)))
      ((try cbv) <;> (repeat ((with_reducible refine EW.of ?_); cbv)))
      (refine ⟨_, _, rfl, hgt, ?_⟩; cbv; ((try cbv) <;> (repeat ((with_reducible refine EW.of ?_); cbv))))
      (refine ⟨Ent.of (hP ▸ Try.func44) rfl, ?_⟩; refine TC.pureE c80 ?_; cbv; (repeat (first | exact trivial | refine And.intro (Emb.Pur _ _) ?_ | refine And.intro rfl ?_ | refine And.intro (Pur.mk rfl) ?_ | refine And.intro (Pur.mk (by assumption)) ?_)); ((try cbv) <;> (repeat ((with_reducible refine EW.of ?_); cbv))))
      first
        | refine ⟨⟨by rfl⟩, q9, E.tree.l l9, by rw [hq9, hl9, hlo]; first | done | rfl, by rw [hl9, hlo, List.nil_append, E.tree.cons, E.tree.nil, hyy]; first | done | rfl, Nat.zero_le _, by omega, by omega, ?_⟩
        | refine ⟨⟨by rfl⟩, q9, E.tree.l l9, by rw [hq9, hl9, hlo, hok]; simp, by rw [hl9, hlo, E.tree.app, E.tree.cons, E.tree.nil, hyy, List.take_of_length_le (by rw [E.tree.len, hok]; exact Nat.le_refl _)], by rw [E.tree.len, hok]; exact Nat.le_refl _, by omega, by omega, ?_⟩
      cbv
      ((try cbv) <;> (repeat ((with_reducible refine EW.of ?_); cbv)))
      refine LM.of (j + 1, some (q9, l9)) rfl ?_ ?_ ?_
      · rw [hS]; exact ⟨h, hq9, by show l9 = _; rw [htk, hl9, hout, hy]⟩
      · rw [hS]; show ks.length - (j + 1) < ks.length - j; omega
      · rw [hS]
        cbv
        (repeat (first | exact trivial | refine And.intro (Emb.Pur _ _) ?_ | refine And.intro rfl ?_ | refine And.intro p2 ?_ | refine And.intro (inc_eq A (by omega)) ?_))
    · have h : ks.length ≤ j := lt_nf h rfl hlk
      rw [List.take_of_length_le h] at hout
      ((try cbv) <;> (repeat ((with_reducible refine EW.of ?_); cbv)))
      exact absurd (hout.symm.trans hlo) hne
  | some z =>
    obtain ⟨q, l⟩ := z
    dsimp only [stT, rowT, outT, okT] at e2 hok hlo ⊢
    subst e2
    cbv
    ((try cbv) <;> (repeat ((with_reducible refine EW.of ?_); cbv)))
    refine bsplit (fun h => ?_) (fun h => ?_)
    · have h : j < ks.length := lt_nt h rfl hlk
      obtain ⟨t', ht'⟩ : ∃ t', ks[j]? = some t' := ⟨_, List.getElem?_eq_getElem h⟩
      have htk : ks.take (j + 1) = ks.take j ++ [t'] := by rw [List.take_add_one, ht']; rfl
      have c80 := ih t' (hw.2 t' (List.mem_of_getElem? ht'))
      have hlol : lo.length = j := by rw [hout, List.length_take]; omega
      have hgt := E.tree.get ht'
      obtain ⟨y, hy⟩ : ∃ y, y = t' := ⟨_, rfl⟩
      obtain ⟨i', k', s', ks'⟩ := t'
      have hyy : E.tree.v y = .agg [.int .i64 i', .int .i64 k', .str s', .sl 4 (E.tree.l ks')] := by rw [hy]; exact E.node i' k' s' ks'
      rw [E.node] at hgt c80
      obtain ⟨l9, hl9⟩ : ∃ d, d = lo ++ [y] := ⟨_, rfl⟩
      obtain ⟨q9, hq9⟩ : ∃ q, q = l9.length := ⟨_, rfl⟩
      have hlen9 : l9.length ≤ 1000001 := by rw [hl9]; simp; omega
      have p4 : Tw.Pur [.int .i64 i', .int .i64 k', .str s', .sl 4 (E.tree.l ks')] := Pur.mk (by (repeat (first | exact rfl | exact Emb.purL _ _ | assumption | apply pur_cons | apply pur_sl | apply pur_slt | apply pur_agg | apply pur_tup)))
      ((try cbv) <;> (repeat ((with_reducible refine EW.of ?_); cbv)))
      (refine ⟨_, _, rfl, hgt, ?_⟩; cbv; ((try cbv) <;> (repeat ((with_reducible refine EW.of ?_); cbv))))
      (refine ⟨Ent.of (hP ▸ Try.func44) rfl, ?_⟩; refine TC.pureE c80 ?_; cbv; (repeat (first | exact trivial | refine And.intro (Emb.Pur _ _) ?_ | refine And.intro rfl ?_ | refine And.intro (Pur.mk rfl) ?_ | refine And.intro (Pur.mk (by assumption)) ?_)); ((try cbv) <;> (repeat ((with_reducible refine EW.of ?_); cbv))))
      first
        | refine ⟨⟨by rfl⟩, q9, E.tree.l l9, by rw [hq9, hl9, hlo]; first | done | rfl, by rw [hl9, hlo, List.nil_append, E.tree.cons, E.tree.nil, hyy]; first | done | rfl, Nat.zero_le _, by omega, by omega, ?_⟩
        | refine ⟨⟨by rfl⟩, q9, E.tree.l l9, by rw [hq9, hl9, hlo, hok]; simp, by rw [hl9, hlo, E.tree.app, E.tree.cons, E.tree.nil, hyy, List.take_of_length_le (by rw [E.tree.len, hok]; exact Nat.le_refl _)], by rw [E.tree.len, hok]; exact Nat.le_refl _, by omega, by omega, ?_⟩
      cbv
      ((try cbv) <;> (repeat ((with_reducible refine EW.of ?_); cbv)))
      refine LM.of (j + 1, some (q9, l9)) rfl ?_ ?_ ?_
      · rw [hS]; exact ⟨h, hq9, by show l9 = _; rw [htk, hl9, hout, hy]⟩
      · rw [hS]; show ks.length - (j + 1) < ks.length - j; omega
      · rw [hS]
        cbv
        (repeat (first | exact trivial | refine And.intro (Emb.Pur _ _) ?_ | refine And.intro rfl ?_ | refine And.intro p2 ?_ | refine And.intro (inc_eq A (by omega)) ?_))
    · have h : ks.length ≤ j := lt_nf h rfl hlk
      rw [List.take_of_length_le h] at hout
      ((try cbv) <;> (repeat ((with_reducible refine EW.of ?_); cbv)))
      rw [hlo] at hout
      subst hout
      rw [show q = nk from by rw [hok, hnk]]
      refine R1.of ?_
      cbv
      (repeat (first | exact trivial | refine And.intro (Emb.Pur _ _) ?_ | refine And.intro rfl ?_ | refine And.intro (Pur.mk rfl) ?_ | refine And.intro (Pur.mk (by assumption)) ?_))
end Go.Proofs.Ytaieiigfheabfaa
