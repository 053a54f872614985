import Derived.Test.YtpjibokaeefhiaaOk
/-! Ages. -/
namespace Go.Proofs.Ytpjibokaeefhiaa
open Go.Proofs.Ytpjibokaeefhiaa.Tw
theorem any_find (p : Lease → Bool) : ∀ l : List Lease, l.any p = (l.find? p).isSome
  | [] => rfl
  | x :: l => by
    rw [List.any_cons, List.find?_cons, any_find p l]
    cases p x <;> rfl
theorem told70 (A : Ar) (E : Em) (F : EmL) {P : Program} (hP : P = Try.prog) (l : List Lease) (hl : l.length ≤ 1000000) (id : Int) : TPure P 70 [.int .i64 id, .imm [.sl 5 (F.l.l l)]] (.bool (l.any fun x => decide (x.id = id))) := by
  refine TPure.ofE A T0 (T0_ok hP) (hP ▸ Try.func70) rfl _ rfl (by simp) ?_
  have h49 := Find49 A E F hP l hl id
  rw [any_find]
  generalize l.find? (fun x => decide (x.id = id)) = w at h49
  unfold EmL.found at h49
  generalize w.isSome = wb at h49
  generalize w.getD lease0 = u at h49
  obtain ⟨u1, u2, u3, u4, u5⟩ := u
  rw [F.row] at h49
  cbv
  ((try cbv) <;> (repeat ((with_reducible refine EW.of ?_); cbv)))
  (refine ⟨Ent.of (hP ▸ Try.func49) rfl, ?_⟩; refine TC.pureE h49 ?_; cbv; (repeat (first | exact trivial | refine And.intro (Emb.Pur _ _) ?_ | refine And.intro rfl ?_ | refine And.intro (Pur.mk rfl) ?_ | refine And.intro (Pur.mk (by assumption)) ?_)); ((try cbv) <;> (repeat ((with_reducible refine EW.of ?_); cbv))))
def ageS (id : Int) : List Int → List Int → Int
  | i :: is, n :: ns => if i = id then n else ageS id is ns
  | _, _ => 0
theorem ageS_drop {id : Int} : ∀ {is ns : List Int} {j : Nat} {i n : Int}, is[j]? = some i → ns[j]? = some n → ageS id (is.drop j) (ns.drop j) = if i = id then n else ageS id (is.drop (j + 1)) (ns.drop (j + 1))
  | [], _, j, i, n, h, _ => by simp at h
  | _ :: _, [], j, i, n, _, h => by simp at h
  | a :: is, b :: ns, 0, i, n, h, h' => by simp at h h'; subst h h'; rfl
  | a :: is, b :: ns, j + 1, i, n, h, h' => by simp only [List.drop_succ_cons]; exact ageS_drop (by simpa using h) (by simpa using h')
theorem Age45 (A : Ar) (E : Em) {P : Program} (hP : P = Try.prog) (term : Int) (is ns : List Int) (hl : is.length ≤ 1000000) (hn : ns.length = is.length) (id : Int) : TPure P 45 [.imm [.int .i64 term, .sl 1 (E.int.l is), .sl 1 (E.int.l ns)], .int .i64 id] (.int .i64 (ageS id is ns)) := by
  refine TPure.ofE A T0 (T0_ok hP) (hP ▸ Try.func45) rfl _ rfl (by simp) ?_
  have hli := E.int.len is
  have hln := E.int.len ns
  obtain ⟨r, hr⟩ : ∃ r, ageS id is ns = r := ⟨_, rfl⟩
  rw [hr]
  cbv
  ((try cbv) <;> (repeat ((with_reducible refine EW.of ?_); cbv)))
  obtain ⟨S, hS⟩ : ∃ S : LI Nat, S = ⟨fun j => [(5, .int .i64 j), (0, .imm [.int .i64 term, .sl 1 (E.int.l is), .sl 1 (E.int.l ns)]), (1, .int .i64 id)], fun _ => [], fun j => j ≤ is.length ∧ ageS id (is.drop j) (ns.drop j) = r, fun j => is.length - j⟩ := ⟨_, rfl⟩
  refine TW.loopM A (T0_ok hP) S _ rfl 0 ?_ ?_ ?_
  · rw [hS]; exact ⟨Nat.zero_le _, hr⟩
  · rw [hS]; cbv; (repeat (first | exact trivial | refine And.intro (Emb.Pur _ _) ?_ | refine And.intro rfl ?_ | refine And.intro (Pur.mk rfl) ?_ | refine And.intro (Pur.mk (by assumption)) ?_))
  intro j hj l1 L1 e1 e2; rw [hS] at hj e1 e2; dsimp only at hj e1 e2; obtain ⟨hj, hinv⟩ := hj; subst e1 e2
  cbv
  ((try cbv) <;> (repeat ((with_reducible refine EW.of ?_); cbv)))
  refine bsplit (fun h => ?_) (fun h => ?_)
  · have h : j < (E.int.l is).length := lt_nt h rfl (A.ok_len _)
    obtain ⟨x, hx⟩ : ∃ x, is[j]? = some x := ⟨_, List.getElem?_eq_getElem (by omega)⟩
    obtain ⟨y, hy⟩ : ∃ y, ns[j]? = some y := ⟨_, List.getElem?_eq_getElem (by omega)⟩
    rw [ageS_drop hx hy] at hinv
    ((try cbv) <;> (repeat ((with_reducible refine EW.of ?_); cbv)))
    refine ⟨j, _, rfl, E.geti hx, ?_⟩
    cbv
    ((try cbv) <;> (repeat ((with_reducible refine EW.of ?_); cbv)))
    refine bsplit (fun h => ?_) (fun h => ?_)
    · have h : x = id := eq_t h rfl rfl
      rw [if_pos h] at hinv
      subst hinv
      ((try cbv) <;> (repeat ((with_reducible refine EW.of ?_); cbv)))
      refine ⟨j, _, rfl, E.geti hy, ?_⟩
      cbv
      ((try cbv) <;> (repeat ((with_reducible refine EW.of ?_); cbv)))
    · have h : x ≠ id := eq_f h rfl rfl
      rw [if_neg h] at hinv
      ((try cbv) <;> (repeat ((with_reducible refine EW.of ?_); cbv)))
      refine LM.of (j + 1) rfl ?_ ?_ ?_
      · rw [hS]; exact ⟨by show j + 1 ≤ _; omega, hinv⟩
      · rw [hS]; show is.length - (j + 1) < is.length - j; omega
      · rw [hS]; (cbv; (repeat (first | exact trivial | refine And.intro (Emb.Pur _ _) ?_ | refine And.intro rfl ?_ | refine And.intro (Pur.mk rfl) ?_ | refine And.intro (Pur.mk (by assumption)) ?_)); refine And.intro (inc_eq A (by omega)) ?_; (repeat (first | exact trivial | refine And.intro (Emb.Pur _ _) ?_ | refine And.intro rfl ?_ | refine And.intro (Pur.mk rfl) ?_ | refine And.intro (Pur.mk (by assumption)) ?_)))
  · have h : (E.int.l is).length ≤ j := lt_nf h rfl (A.ok_len _)
    rw [List.drop_eq_nil_of_le (by omega), List.drop_eq_nil_of_le (by omega)] at hinv
    replace hinv : (0 : Int) = r := hinv
    subst hinv
    ((try cbv) <;> (repeat ((with_reducible refine EW.of ?_); cbv)))
end Go.Proofs.Ytpjibokaeefhiaa
