import Derived.Test.YtaieiigfheabfaaLp
/-! Trees in new memory; two trees compared. -/
namespace Go.Proofs.Ytaieiigfheabfaa
open Go.Proofs.Ytaieiigfheabfaa.Tw
/-- The objects while kids are put together: none yet, or a row of so many. -/
def stK (E : Em) (L : Store) : Option (Nat × List Tree) → Store
  | none => L
  | some (_, done) => L ++ [some (.arr 4 (E.tree.l done))]
def rowK (p : Nat) : Option (Nat × List Tree) → AV
  | none => .nils
  | some (n, _) => .row p 4 0 n
def invK (ts : List Tree) : Option (Nat × List Tree) → Prop
  | none => ts = []
  | some (m, done) => m = done.length ∧ done = ts
theorem copy63 (A : Ar) (E : Em) {P : Program} (hP : P = Try.prog) : ∀ (n : Nat) (t : Tree), within n t → TPure P 63 [E.tree.v t] (E.tree.v t) := by
  intro n
  induction n with
  | zero => exact fun _ h => h.elim
  | succ n ih =>
  intro t hw
  refine TPure.ofE A T0 (T0_ok hP) (hP ▸ Try.func63) rfl _ rfl (by simp) ?_
  obtain ⟨i, k, s, ks⟩ := t
  have hll := E.tree.len ks
  have hwl := hw.len'
  simp only [E.node]
  cbv
  ((try cbv) <;> (repeat ((with_reducible refine EW.of ?_); cbv)))
  obtain ⟨z, hz⟩ : ∃ z : Store, z = [some (.box 4 (.agg [.int .i64 i, .int .i64 k, .str s, .sl 4 (E.tree.l ks)])), some (.box 4 (.agg [.int .i64 0, .int .i64 0, .str ⟨⟨[]⟩⟩, .nils]))] := ⟨_, rfl⟩
  obtain ⟨S, hS⟩ : ∃ S : LI (Nat × Option (Nat × List Tree)), S = ⟨fun x => [(9, .int .i64 x.1), (8, .int .i64 (A.len (E.tree.l ks))), (7, .sl 4 (E.tree.l ks)), (3, rowK 2 x.2), (2, .ref 1 4 0 0), (1, .ref 0 4 0 0)], fun x => stK E z x.2, fun x => x.1 ≤ ks.length ∧ invK (ks.take x.1) x.2, fun x => ks.length - x.1⟩ := ⟨_, rfl⟩
  refine TW.loopM A (T0_ok hP) S 22 rfl (0, none) ?_ ?_ ?_
  · rw [hS]; exact ⟨Nat.zero_le _, rfl⟩
  · rw [hS, hz]; cbv; (repeat (first | exact trivial | refine And.intro (Emb.Pur _ _) ?_ | refine And.intro rfl ?_ | refine And.intro (Pur.mk rfl) ?_ | refine And.intro (Pur.mk (by assumption)) ?_))
  rintro ⟨j, o⟩ hj l1 L1 e1 e2
  rw [hS] at hj e1 e2
  obtain ⟨hj, ho⟩ := hj
  dsimp only at hj ho e1 e2
  subst e1
  cases o with
  | none =>
    dsimp only [stK, rowK, invK] at e2 ho ⊢
    rw [hz] at e2
    subst e2
    cbv
    ((try cbv) <;> (repeat ((with_reducible refine EW.of ?_); cbv)))
    refine bsplit (fun h => ?_) (fun h => ?_)
    · have h : j < (E.tree.l ks).length := lt_nt h rfl (A.ok_len _)
      obtain ⟨t', ht'⟩ : ∃ t', ks[j]? = some t' := ⟨_, List.getElem?_eq_getElem (by omega)⟩
      have hwt := hw.2 t' (List.mem_of_getElem? ht')
      have hrec := ih t' hwt
      have htk : ks.take (j + 1) = ks.take j ++ [t'] := by rw [List.take_add_one, ht']; rfl
      have hlk : (ks.take j).length = j := by simp; omega
      obtain ⟨i', k', s', ks'⟩ := t'
      simp only [E.node] at hrec
      ((try cbv) <;> (repeat ((with_reducible refine EW.of ?_); cbv)))
      refine ⟨j, _, rfl, E.getn ht', ?_⟩
      cbv
      ((try cbv) <;> (repeat ((with_reducible refine EW.of ?_); cbv)))
      (refine ⟨Ent.of (hP ▸ Try.func63) rfl, ?_⟩; refine TC.pureE hrec ?_; cbv; (repeat (first | exact trivial | refine And.intro (Emb.Pur _ _) ?_ | refine And.intro rfl ?_ | refine And.intro (Pur.mk rfl) ?_ | refine And.intro (Pur.mk (by assumption)) ?_)); ((try cbv) <;> (repeat ((with_reducible refine EW.of ?_); cbv))))
      obtain ⟨q, hq⟩ : ∃ q, q = j + 1 := ⟨_, rfl⟩
      obtain ⟨done1, hd1⟩ : ∃ l, l = ks.take (j + 1) := ⟨_, rfl⟩
      have hj0 : j = 0 := by rw [← hlk, ho]; rfl
      refine ⟨⟨rfl⟩, q, E.tree.l done1, by rw [hq, hj0]; rfl, by rw [hd1, htk, ho, E.tree.app, E.tree.cons, E.node, E.tree.nil]; rfl, Nat.zero_le _, by omega, by omega, ?_⟩
      cbv
      ((try cbv) <;> (repeat ((with_reducible refine EW.of ?_); cbv)))
      refine LM.of (j + 1, some (q, done1)) rfl ?_ ?_ ?_
      · rw [hS]; exact ⟨by show j + 1 ≤ _; omega, by rw [hd1, hq]; simp; omega, hd1⟩
      · rw [hS]; show ks.length - (j + 1) < ks.length - j; omega
      · rw [hS, hz]; (cbv; (repeat (first | exact trivial | refine And.intro (Emb.Pur _ _) ?_ | refine And.intro rfl ?_ | refine And.intro (Pur.mk rfl) ?_ | refine And.intro (Pur.mk (by assumption)) ?_)); refine And.intro (inc_eq A (by omega)) ?_; (repeat (first | exact trivial | refine And.intro (Emb.Pur _ _) ?_ | refine And.intro rfl ?_ | refine And.intro (Pur.mk rfl) ?_ | refine And.intro (Pur.mk (by assumption)) ?_)))
    · have h : (E.tree.l ks).length ≤ j := lt_nf h rfl (A.ok_len _)
      have hks : ks.take j = ks := List.take_of_length_le (by omega)
      rw [hks] at ho
      ((try cbv) <;> (repeat ((with_reducible refine EW.of ?_); cbv)))
      subst ho
      exact ⟨E.tree.nil.symm, trivial⟩
  | some x =>
    obtain ⟨m, done⟩ := x
    dsimp only [stK, rowK, invK] at e2 ho ⊢
    obtain ⟨hm, ho⟩ := ho
    rw [hz] at e2
    subst e2
    cbv
    ((try cbv) <;> (repeat ((with_reducible refine EW.of ?_); cbv)))
    refine bsplit (fun h => ?_) (fun h => ?_)
    · have h : j < (E.tree.l ks).length := lt_nt h rfl (A.ok_len _)
      obtain ⟨t', ht'⟩ : ∃ t', ks[j]? = some t' := ⟨_, List.getElem?_eq_getElem (by omega)⟩
      have hwt := hw.2 t' (List.mem_of_getElem? ht')
      have hrec := ih t' hwt
      have htk : ks.take (j + 1) = ks.take j ++ [t'] := by rw [List.take_add_one, ht']; rfl
      have hlk : (ks.take j).length = j := by simp; omega
      obtain ⟨i', k', s', ks'⟩ := t'
      simp only [E.node] at hrec
      ((try cbv) <;> (repeat ((with_reducible refine EW.of ?_); cbv)))
      refine ⟨j, _, rfl, E.getn ht', ?_⟩
      cbv
      ((try cbv) <;> (repeat ((with_reducible refine EW.of ?_); cbv)))
      (refine ⟨Ent.of (hP ▸ Try.func63) rfl, ?_⟩; refine TC.pureE hrec ?_; cbv; (repeat (first | exact trivial | refine And.intro (Emb.Pur _ _) ?_ | refine And.intro rfl ?_ | refine And.intro (Pur.mk rfl) ?_ | refine And.intro (Pur.mk (by assumption)) ?_)); ((try cbv) <;> (repeat ((with_reducible refine EW.of ?_); cbv))))
      obtain ⟨q, hq⟩ : ∃ q, q = j + 1 := ⟨_, rfl⟩
      obtain ⟨done1, hd1⟩ : ∃ l, l = ks.take (j + 1) := ⟨_, rfl⟩
      have hdl := E.tree.len done
      have hmj : m = j := by rw [hm, ho, hlk]
      refine ⟨⟨rfl⟩, q, E.tree.l done1, by rw [hq, hmj]; rfl, by rw [hd1, htk, ← ho, E.tree.app, E.tree.cons, E.node, E.tree.nil, List.take_of_length_le (show (E.tree.l done).length ≤ m by omega)], (show m ≤ (E.tree.l done).length by omega), by omega, by omega, ?_⟩
      cbv
      ((try cbv) <;> (repeat ((with_reducible refine EW.of ?_); cbv)))
      refine LM.of (j + 1, some (q, done1)) rfl ?_ ?_ ?_
      · rw [hS]; exact ⟨by show j + 1 ≤ _; omega, by rw [hd1, hq]; simp; omega, hd1⟩
      · rw [hS]; show ks.length - (j + 1) < ks.length - j; omega
      · rw [hS, hz]; (cbv; (repeat (first | exact trivial | refine And.intro (Emb.Pur _ _) ?_ | refine And.intro rfl ?_ | refine And.intro (Pur.mk rfl) ?_ | refine And.intro (Pur.mk (by assumption)) ?_)); refine And.intro (inc_eq A (by omega)) ?_; (repeat (first | exact trivial | refine And.intro (Emb.Pur _ _) ?_ | refine And.intro rfl ?_ | refine And.intro (Pur.mk rfl) ?_ | refine And.intro (Pur.mk (by assumption)) ?_)))
    · have h : (E.tree.l ks).length ≤ j := lt_nf h rfl (A.ok_len _)
      have hks : ks.take j = ks := List.take_of_length_le (by omega)
      rw [hks] at ho
      ((try cbv) <;> (repeat ((with_reducible refine EW.of ?_); cbv)))
      subst ho
      exact ⟨E.tree.cut hm, E.tree.Pur _, trivial⟩
end Go.Proofs.Ytaieiigfheabfaa
