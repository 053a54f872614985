import Derived.Test.YtpjibokaeefhiaaXj
/-! The reference's Find. -/
namespace Go.Proofs.Ytpjibokaeefhiaa
open Go.Proofs.Ytpjibokaeefhiaa.Tw
theorem firstL_drop {id : Int} {l : List (Tree × Nat)} {j : Nat} {x : Tree × Nat} (h : l[j]? = some x) : firstL id (l.drop j) = if x.1.id = id then some x.1 else firstL id (l.drop (j + 1)) := by
  rw [List.drop_eq_getElem?_toList_append, h]
  simp only [Option.toList_some, List.singleton_append, firstL, List.find?_cons]
  by_cases hx : x.1.id = id
  · simp [hx]
  · simp [hx]
theorem Find34 (A : Ar) (E : Em) {P : Program} (hP : P = Try.prog) (id : Int) (t : Tree) (hok : t.ok) : TPure P 34 [E.tree.v t, .int .i64 id] (.tup [E.tree.v ((firstL id (walkT 2000 t [] 1)).getD t0), .bool (firstL id (walkT 2000 t [] 1)).isSome]) := by
  have h23 := Walk23 A hP 2000 (by omega) (by omega) t hok
  have hwl := (walkT_len 2000 t [] 1).2 (by simp)
  generalize walkT 2000 t [] 1 = l at h23 hwl ⊢
  obtain ⟨r, hr⟩ : ∃ r, r = firstL id l := ⟨_, rfl⟩
  rw [← hr]
  obtain ⟨yi, yk, ys, yks, hy⟩ : ∃ i k s ks, r.getD t0 = Tree.node i k s ks := by cases r.getD t0; exact ⟨_, _, _, _, rfl⟩
  obtain ⟨os, hos⟩ : ∃ os, os = r.isSome := ⟨_, rfl⟩
  rw [hy, ← hos]
  obtain ⟨i, k, s, ks⟩ := t
  simp only [E.av, E.spots, E.node] at h23 ⊢
  have hll := E.spot.len l
  refine TPure.ofE A T0 (T0_ok hP) (hP ▸ Try.func34) rfl _ rfl (by simp) ?_
  cbv
  ((try cbv) <;> (repeat ((with_reducible refine EW.of ?_); cbv)))
  (refine ⟨Ent.of (hP ▸ Try.func23) rfl, ?_⟩; refine TC.pureE h23 ?_; cbv; (repeat (first | exact trivial | refine And.intro (Emb.Pur _ _) ?_ | refine And.intro rfl ?_ | refine And.intro (Pur.mk rfl) ?_ | refine And.intro (Pur.mk (by assumption)) ?_)); ((try cbv) <;> (repeat ((with_reducible refine EW.of ?_); cbv))))
  obtain ⟨S, hS⟩ : ∃ S : LI Nat, S = ⟨fun j => [(7, .int .i64 j), (6, .sl 5 (E.spot.l l)), (5, .bool false), (4, .ref 1 4 0 0), (1, .int .i64 id)], fun _ => [some (.box 4 (.agg [.int .i64 i, .int .i64 k, .str s, .sl 4 (E.tree.l ks)])), some (.box 4 (.agg [.int .i64 0, .int .i64 0, .str ⟨#[]⟩, .nils]))], fun j => j ≤ l.length ∧ firstL id (l.drop j) = r, fun j => l.length - j⟩ := ⟨_, rfl⟩
  refine TW.loopM A (T0_ok hP) S 30 rfl 0 ?_ ?_ ?_
  · rw [hS]; exact ⟨Nat.zero_le _, hr.symm⟩
  · rw [hS]; cbv; (repeat (first | exact trivial | refine And.intro (Emb.Pur _ _) ?_ | refine And.intro rfl ?_ | refine And.intro (Pur.mk rfl) ?_ | refine And.intro (Pur.mk (by assumption)) ?_))
  intro j hj l1 L1 e1 e2; rw [hS] at hj e1 e2; dsimp only at hj e1 e2; obtain ⟨hj, hno⟩ := hj; subst e1 e2
  cbv
  ((try cbv) <;> (repeat ((with_reducible refine EW.of ?_); cbv)))
  refine bsplit (fun h => ?_) (fun h => ?_)
  · have h : j < (E.spot.l l).length := lt_nt h rfl (A.ok_len _)
    obtain ⟨x, hx⟩ : ∃ x, l[j]? = some x := ⟨_, List.getElem?_eq_getElem (by omega)⟩
    rw [firstL_drop hx] at hno
    obtain ⟨⟨i1, k1, s1, ks1⟩, d1⟩ := x
    replace hno : (if i1 = id then some (Tree.node i1 k1 s1 ks1) else firstL id (l.drop (j + 1))) = r := hno
    ((try cbv) <;> (repeat ((with_reducible refine EW.of ?_); cbv)))
    (refine ⟨_, _, rfl, (E.gets hx), ?_⟩; cbv; ((try cbv) <;> (repeat ((with_reducible refine EW.of ?_); cbv))))
    refine bsplit (fun h2 => ?_) (fun h2 => ?_)
    · have h2 : i1 = id := eq_t h2 rfl rfl
      rw [if_pos h2] at hno
      subst hno
      obtain ⟨rfl, rfl, rfl, rfl⟩ := Tree.node.inj hy
      subst hos
      ((try cbv) <;> (repeat ((with_reducible refine EW.of ?_); cbv)))
      (refine ⟨_, _, rfl, (E.gets hx), ?_⟩; cbv; ((try cbv) <;> (repeat ((with_reducible refine EW.of ?_); cbv))))
      (repeat (first | exact trivial | refine And.intro (Emb.Pur _ _) ?_ | refine And.intro rfl ?_ | refine And.intro (Pur.mk rfl) ?_ | refine And.intro (Pur.mk (by assumption)) ?_))
    · have h2 : i1 ≠ id := eq_f h2 rfl rfl
      rw [if_neg h2] at hno
      ((try cbv) <;> (repeat ((with_reducible refine EW.of ?_); cbv)))
      refine LM.of (j + 1) rfl ?_ ?_ ?_
      · rw [hS]; exact ⟨by omega, hno⟩
      · rw [hS]; show l.length - (j + 1) < l.length - j; omega
      · rw [hS]; (cbv; (repeat (first | exact trivial | refine And.intro (Emb.Pur _ _) ?_ | refine And.intro rfl ?_ | refine And.intro (Pur.mk rfl) ?_ | refine And.intro (Pur.mk (by assumption)) ?_)); refine And.intro (inc_eq A (by omega)) ?_; (repeat (first | exact trivial | refine And.intro (Emb.Pur _ _) ?_ | refine And.intro rfl ?_ | refine And.intro (Pur.mk rfl) ?_ | refine And.intro (Pur.mk (by assumption)) ?_)))
  · have h : (E.spot.l l).length ≤ j := lt_nf h rfl (A.ok_len _)
    rw [List.drop_eq_nil_of_le (by omega)] at hno
    subst hno
    obtain ⟨rfl, rfl, rfl, rfl⟩ := Tree.node.inj hy
    subst hos
    ((try cbv) <;> (repeat ((with_reducible refine EW.of ?_); cbv)))
    exact ⟨E.tree.nil.symm, trivial⟩
end Go.Proofs.Ytpjibokaeefhiaa
