import Derived.Test.YtpjibokaeefhiaaOc
/-! Leases of a client, leases without some. -/
namespace Go.Proofs.Ytpjibokaeefhiaa
open Go.Proofs.Ytpjibokaeefhiaa.Tw
def firstZ (z : Int) : List Int → Nat → Int
  | [], _ => -1
  | x :: l, n => if z = x then (n : Int) else firstZ z l (n + 1)
theorem firstZ_drop {z : Int} : ∀ {l : List Int} {j n : Nat} {x : Int}, l[j]? = some x → firstZ z (l.drop j) n = if z = x then (n : Int) else firstZ z (l.drop (j + 1)) (n + 1)
  | [], j, n, x, h => by simp at h
  | y :: l, 0, n, x, h => by simp at h; subst h; rfl
  | y :: l, j + 1, n, x, h => by simp only [List.drop_succ_cons]; exact firstZ_drop (by simpa using h)
theorem firstZ_has (z : Int) : ∀ (l : List Int) (n : Nat), decide (0 ≤ firstZ z l n) = l.contains z
  | [], n => rfl
  | x :: l, n => by
    by_cases h : z = x
    · simp [firstZ, h]
    · have := firstZ_has z l (n + 1)
      simp only [firstZ, h, if_false, this]
      simp [h]
theorem index82 (A : Ar) (E : Em) {P : Program} (hP : P = Try.prog) (z : Int) (l : List Int) (hl : l.length ≤ 1000000) : TPure P 82 [.sl 1 (E.int.l l), .int .i64 z] (.int .i64 (firstZ z l 0)) := by
  refine TPure.ofE A T0 (T0_ok hP) (hP ▸ Try.func82) rfl _ rfl (by simp) ?_
  have hll := E.int.len l
  obtain ⟨r, hr⟩ : ∃ r, firstZ z l 0 = r := ⟨_, rfl⟩
  rw [hr]
  cbv
  ((try cbv) <;> (repeat ((with_reducible refine EW.of ?_); cbv)))
  obtain ⟨S, hS⟩ : ∃ S : LI Nat, S = ⟨fun j => [(8, .int .i64 j), (7, .int .i64 (A.len (E.int.l l))), (0, .sl 1 (E.int.l l)), (1, .int .i64 z)], fun _ => [], fun j => j ≤ l.length ∧ firstZ z (l.drop j) j = r, fun j => l.length - j⟩ := ⟨_, rfl⟩
  refine TW.loopM A (T0_ok hP) S _ rfl 0 ?_ ?_ ?_
  · rw [hS]; exact ⟨Nat.zero_le _, hr⟩
  · rw [hS]; cbv; (repeat (first | exact trivial | refine And.intro (Emb.Pur _ _) ?_ | refine And.intro rfl ?_ | refine And.intro (Pur.mk rfl) ?_ | refine And.intro (Pur.mk (by assumption)) ?_))
  intro j hj l1 L1 e1 e2; rw [hS] at hj e1 e2; dsimp only at hj e1 e2; obtain ⟨hj, hinv⟩ := hj; subst e1 e2
  cbv
  ((try cbv) <;> (repeat ((with_reducible refine EW.of ?_); cbv)))
  refine bsplit (fun h => ?_) (fun h => ?_)
  · have h : j < (E.int.l l).length := lt_nt h rfl (A.ok_len _)
    obtain ⟨x, hx⟩ : ∃ x, l[j]? = some x := ⟨_, List.getElem?_eq_getElem (by omega)⟩
    rw [firstZ_drop hx] at hinv
    ((try cbv) <;> (repeat ((with_reducible refine EW.of ?_); cbv)))
    refine ⟨j, _, rfl, E.geti hx, ?_⟩
    cbv
    ((try cbv) <;> (repeat ((with_reducible refine EW.of ?_); cbv)))
    refine bsplit (fun h => ?_) (fun h => ?_)
    · have h : z = x := by simpa using (A.ok_eq _ _).symm.trans h
      rw [if_pos h] at hinv
      subst hinv
      ((try cbv) <;> (repeat ((with_reducible refine EW.of ?_); cbv)))
    · have h : ¬ z = x := by simpa using (A.ok_eq _ _).symm.trans h
      rw [if_neg h] at hinv
      ((try cbv) <;> (repeat ((with_reducible refine EW.of ?_); cbv)))
      refine LM.of (j + 1) rfl ?_ ?_ ?_
      · rw [hS]; exact ⟨by show j + 1 ≤ _; omega, hinv⟩
      · rw [hS]; show l.length - (j + 1) < l.length - j; omega
      · rw [hS]; (cbv; (repeat (first | exact trivial | refine And.intro (Emb.Pur _ _) ?_ | refine And.intro rfl ?_ | refine And.intro (Pur.mk rfl) ?_ | refine And.intro (Pur.mk (by assumption)) ?_)); refine And.intro (inc_eq A (by omega)) ?_; (repeat (first | exact trivial | refine And.intro (Emb.Pur _ _) ?_ | refine And.intro rfl ?_ | refine And.intro (Pur.mk rfl) ?_ | refine And.intro (Pur.mk (by assumption)) ?_)))
  · have h : (E.int.l l).length ≤ j := lt_nf h rfl (A.ok_len _)
    rw [List.drop_eq_nil_of_le (by omega)] at hinv
    replace hinv : (-1 : Int) = r := hinv
    subst hinv
    ((try cbv) <;> (repeat ((with_reducible refine EW.of ?_); cbv)))
theorem contains73 (A : Ar) (E : Em) {P : Program} (hP : P = Try.prog) (z : Int) (l : List Int) (hl : l.length ≤ 1000000) : TPure P 73 [.sl 1 (E.int.l l), .int .i64 z] (.bool (l.contains z)) := by
  refine TPure.ofE A T0 (T0_ok hP) (hP ▸ Try.func73) rfl _ rfl (by simp) ?_
  have h82 := index82 A E hP z l hl
  obtain ⟨r, hr⟩ : ∃ r, r = l.contains z := ⟨_, rfl⟩
  rw [← hr]
  generalize hi : firstZ z l 0 = i at h82
  cbv
  ((try cbv) <;> (repeat ((with_reducible refine EW.of ?_); cbv)))
  (refine ⟨Ent.of (hP ▸ Try.func82) rfl, ?_⟩; refine TC.pureE h82 ?_; cbv; (repeat (first | exact trivial | refine And.intro (Emb.Pur _ _) ?_ | refine And.intro rfl ?_ | refine And.intro (Pur.mk rfl) ?_ | refine And.intro (Pur.mk (by assumption)) ?_)); ((try cbv) <;> (repeat ((with_reducible refine EW.of ?_); cbv))))
  refine ⟨?_, trivial⟩
  rw [hr, ← hi]
  exact (A.ok_le _ _).trans (firstZ_has z l 0)
theorem tells72 (A : Ar) (E : Em) (F : EmL) {P : Program} (hP : P = Try.prog) (ids : List Int) (hi : ids.length ≤ 1000000) : Tells P F 72 [.imm [.sl 1 (E.int.l ids)]] (fun x => !ids.contains x.id) := by
  refine ⟨by (repeat (first | exact rfl | exact Emb.purL _ _ | assumption | apply pur_cons | apply pur_sl | apply pur_slt | apply pur_agg | apply pur_tup)), Ent.of (hP ▸ Try.func72) rfl, fun x => ?_⟩
  refine TPure.ofE A T0 (T0_ok hP) (hP ▸ Try.func72) rfl _ rfl (by simp) ?_
  obtain ⟨x1, x2, x3, x4, x5⟩ := x
  have h73 := contains73 A E hP x1 ids hi
  simp only [F.row]
  generalize ids.contains x1 = b at h73
  obtain ⟨c, hc⟩ : ∃ c, c = !b := ⟨_, rfl⟩
  rw [← hc]
  cbv
  ((try cbv) <;> (repeat ((with_reducible refine EW.of ?_); cbv)))
  (refine ⟨Ent.of (hP ▸ Try.func73) rfl, ?_⟩; refine TC.pureE h73 ?_; cbv; (repeat (first | exact trivial | refine And.intro (Emb.Pur _ _) ?_ | refine And.intro rfl ?_ | refine And.intro (Pur.mk rfl) ?_ | refine And.intro (Pur.mk (by assumption)) ?_)); ((try cbv) <;> (repeat ((with_reducible refine EW.of ?_); cbv))))
  exact ⟨by rw [hc]; cases b <;> rfl, trivial⟩
theorem Of53 (A : Ar) (E : Em) (F : EmL) {P : Program} (hP : P = Try.prog) (l : List Lease) (hl : l.length ≤ 1000000) (id : Int) : TPure P 53 [.sl 5 (F.l.l l), .int .i64 id] (.sl 5 (F.l.l (l.filter fun x => decide (x.client = id)))) := by
  refine TPure.ofE A T0 (T0_ok hP) (hP ▸ Try.func53) rfl _ rfl (by simp) ?_
  have h71 := keep71 A E F hP _ _ _ (tells77 A F hP id) l hl
  generalize l.filter (fun x => decide (x.client = id)) = r at h71
  cbv
  ((try cbv) <;> (repeat ((with_reducible refine EW.of ?_); cbv)))
  (refine ⟨Ent.of (hP ▸ Try.func71) rfl, ?_⟩; refine TC.pureF [0] h71 (by (repeat (first | exact rfl | exact Emb.purL _ _ | assumption | apply pur_cons | apply pur_sl | apply pur_slt | apply pur_agg | apply pur_tup))) ?_; cbv; (repeat (first | exact trivial | refine And.intro (Emb.Pur _ _) ?_ | refine And.intro rfl ?_ | refine And.intro (Pur.mk rfl) ?_ | refine And.intro (Pur.mk (by assumption)) ?_)); ((try cbv) <;> (repeat ((with_reducible refine EW.of ?_); cbv))))
  exact ⟨F.l.Pur _, trivial⟩
theorem Remove48 (A : Ar) (E : Em) (F : EmL) {P : Program} (hP : P = Try.prog) (l : List Lease) (hl : l.length ≤ 1000000) (ids : List Int) (hi : ids.length ≤ 1000000) : TPure P 48 [.sl 5 (F.l.l l), .sl 1 (E.int.l ids)] (.sl 5 (F.l.l (l.filter fun x => !ids.contains x.id))) := by
  refine TPure.ofE A T0 (T0_ok hP) (hP ▸ Try.func48) rfl _ rfl (by simp) ?_
  have h71 := keep71 A E F hP _ _ _ (tells72 A E F hP ids hi) l hl
  generalize l.filter (fun x => !ids.contains x.id) = r at h71
  cbv
  ((try cbv) <;> (repeat ((with_reducible refine EW.of ?_); cbv)))
  (refine ⟨Ent.of (hP ▸ Try.func71) rfl, ?_⟩; refine TC.pureF [0] h71 (by (repeat (first | exact rfl | exact Emb.purL _ _ | assumption | apply pur_cons | apply pur_sl | apply pur_slt | apply pur_agg | apply pur_tup))) ?_; cbv; (repeat (first | exact trivial | refine And.intro (Emb.Pur _ _) ?_ | refine And.intro rfl ?_ | refine And.intro (Pur.mk rfl) ?_ | refine And.intro (Pur.mk (by assumption)) ?_)); ((try cbv) <;> (repeat ((with_reducible refine EW.of ?_); cbv))))
  refine And.intro ⟨by (repeat (first | exact rfl | exact Emb.purL _ _ | assumption | apply pur_cons | apply pur_sl | apply pur_slt | apply pur_agg | apply pur_tup))⟩ ?_
  ((try cbv) <;> (repeat ((with_reducible refine EW.of ?_); cbv)))
  exact ⟨F.l.Pur _, trivial⟩
end Go.Proofs.Ytpjibokaeefhiaa
