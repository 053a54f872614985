import Derived.Test.YtmbbdabcbnemiaaRm
/-! How much the statements of codes go through. -/
namespace Go.Proofs.Ytmbbdabcbnemiaa
open Go.Proofs.Ytmbbdabcbnemiaa.Tw
def tsz : Tree × Nat → Nat
  | (.node _ _ s _, _) => s.size
def over3 : Nat → List (Tree × Nat) → Bool
  | _, [] => false
  | n, x :: l => decide (20000 < n + tsz x) || over3 (n + tsz x) l
def great3 (t : Tree) : Bool := over3 0 (walkT 251 t [] 1) || decide (250 < (walkT 251 t [] 1).length)
theorem over3_yes {n : Nat} {i k : Int} {s : ByteArray} {ks : List Tree} {d : Nat} {l : List (Tree × Nat)} (h : 20000 < n + s.size) : over3 n ((.node i k s ks, d) :: l) = true := by
  show (decide (20000 < n + s.size) || _) = true
  rw [decide_eq_true h, Bool.true_or]
theorem over3_no {n : Nat} {i k : Int} {s : ByteArray} {ks : List Tree} {d : Nat} {l : List (Tree × Nat)} (h : ¬ 20000 < n + s.size) : over3 n ((.node i k s ks, d) :: l) = over3 (n + s.size) l := by
  show (decide (20000 < n + s.size) || _) = _
  rw [decide_eq_false h, Bool.false_or]
  rfl
theorem lt_dec (A : Ar) {a b : Int} {i j : Nat} (ha : a = (i : Int)) (hb : b = (j : Int)) : A.lt a b = decide (i < j) := by
  subst ha hb
  rw [A.ok_lt]
  exact decide_eq_decide.2 Int.ofNat_lt
set_option maxHeartbeats 1000000 in
theorem Great7 (A : Ar) (E : Em) {P : Program} (hP : P = Try.prog) (t : Tree) (hok : t.ok) : TPure P 7 [E.tree.v t] (.bool (great3 t)) := by
  have h23 : TPure P 36 [t.av, .int .i64 251] (.sl 5 (spots (walkT 251 t [] 1))) := Walk23 A hP 251 (by decide) (by decide) t hok
  have hlen := (walkT_len 251 t [] 1).2 (Nat.zero_le _)
  unfold great3
  generalize walkT 251 t [] 1 = sp at h23 hlen ⊢
  rw [E.av, E.spots] at h23
  have hel := E.spot.len sp
  have hlk : A.len (E.spot.l sp) = (sp.length : Int) := by rw [A.ok_len, hel]
  obtain ⟨i0, k0, s0, ks0⟩ := t
  rw [E.node] at h23 ⊢
  obtain ⟨res, hres⟩ : ∃ b, b = (over3 0 sp || decide (250 < sp.length)) := ⟨_, rfl⟩
  rw [← hres]
  refine TPure.ofE A T0 (T0_ok hP) (hP ▸ Try.func7) rfl _ rfl (by simp) ?_
  cbv
  ((try cbv) <;> (repeat ((with_reducible refine EW.of ?_); cbv)))
  (refine ⟨Ent.of (hP ▸ Try.func36) rfl, ?_⟩; refine TC.pureE h23 ?_; cbv; (repeat (first | exact trivial | refine And.intro (Emb.Pur _ _) ?_ | refine And.intro rfl ?_ | refine And.intro (Pur.mk rfl) ?_ | refine And.intro (Pur.mk (by assumption)) ?_)); ((try cbv) <;> (repeat ((with_reducible refine EW.of ?_); cbv))))
  obtain ⟨S, hS⟩ : ∃ S : LI (Nat × Nat), S = ⟨fun x => [(10, .int .i64 x.1), (9, .int .i64 (A.len (E.spot.l sp))), (4, .int .i64 x.2), (3, .sl 5 (E.spot.l sp)), (2, .bool false)], fun x => [], fun x => x.1 ≤ sp.length ∧ x.2 ≤ 20000 ∧ over3 0 sp = over3 x.2 (sp.drop x.1), fun x => sp.length - x.1⟩ := ⟨_, rfl⟩
  refine TW.loopM A (T0_ok hP) S _ rfl (0, 0) ?_ ?_ ?_
  · rw [hS]; exact ⟨Nat.zero_le _, Nat.zero_le _, rfl⟩
  · rw [hS]
    cbv
    (repeat (first | exact trivial | refine And.intro (Emb.Pur _ _) ?_ | refine And.intro rfl ?_))
  rintro ⟨j, n⟩ hj l1 L1 e1 e2
  rw [hS] at hj e1 e2
  dsimp only at hj e1 e2
  obtain ⟨hj, hn, hov⟩ := hj
  subst e1 e2
  cbv
  ((try cbv) <;> (repeat ((with_reducible refine EW.of ?_); cbv)))
  refine bsplit (fun h => ?_) (fun h => ?_)
  · have h : j < sp.length := lt_nt h rfl hlk
    obtain ⟨⟨⟨i, k, s, ks⟩, d⟩, hx⟩ : ∃ x, sp[j]? = some x := ⟨_, List.getElem?_eq_getElem h⟩
    have hget := E.gets hx
    have hdr : sp.drop j = (.node i k s ks, d) :: sp.drop (j + 1) := by
      rw [List.drop_eq_getElem_cons h]
      rw [List.getElem?_eq_getElem h] at hx
      rw [Option.some.inj hx]
    rw [hdr] at hov
    have hsub : A.op .sub .i64 20000 (n : Int) = ((20000 - n : Nat) : Int) := by rw [sub_i64 rfl rfl (by omega) (by omega)]; omega
    ((try cbv) <;> (repeat ((with_reducible refine EW.of ?_); cbv)))
    refine ⟨j, _, rfl, hget, ?_⟩
    cbv
    ((try cbv) <;> (repeat ((with_reducible refine EW.of ?_); cbv)))
    refine bsplit (fun h2 => ?_) (fun h2 => ?_)
    · have h2 : 20000 - n < s.size := lt_nt h2 hsub (A.ok_slen s)
      ((try cbv) <;> (repeat ((with_reducible refine EW.of ?_); cbv)))
      rw [over3_yes (by omega)] at hov
      rw [hov, Bool.true_or] at hres
      exact And.intro hres.symm trivial
    · have h2 : s.size ≤ 20000 - n := lt_nf h2 hsub (A.ok_slen s)
      obtain ⟨n2, hn2⟩ : ∃ n2, n2 = n + s.size := ⟨_, rfl⟩
      have hadd : A.op .add .i64 (n : Int) (A.slen s) = (n2 : Int) := by rw [A.ok_slen, add_i64 rfl rfl (by omega) (by omega)]; omega
      rw [over3_no (by omega), ← hn2] at hov
      ((try cbv) <;> (repeat ((with_reducible refine EW.of ?_); cbv)))
      refine ⟨j, _, rfl, hget, ?_⟩
      cbv
      ((try cbv) <;> (repeat ((with_reducible refine EW.of ?_); cbv)))
      refine LM.of (j + 1, n2) rfl ?_ ?_ ?_
      · rw [hS]; exact ⟨by show j + 1 ≤ sp.length; omega, by show n2 ≤ 20000; omega, hov⟩
      · rw [hS]; show sp.length - (j + 1) < sp.length - j; omega
      · rw [hS]
        cbv
        (repeat (first | exact trivial | refine And.intro (Emb.Pur _ _) ?_ | refine And.intro hadd ?_ | refine And.intro (inc_eq A (by omega)) ?_ | refine And.intro rfl ?_))
  · have h : sp.length ≤ j := lt_nf h rfl hlk
    rw [List.drop_eq_nil_of_le h] at hov
    simp only [over3] at hov
    have hlt : A.lt 250 (A.len (E.spot.l sp)) = decide (250 < sp.length) := lt_dec A (i := 250) rfl hlk
    ((try cbv) <;> (repeat ((with_reducible refine EW.of ?_); cbv)))
    exact And.intro (by rw [hres, hov, Bool.false_or]; exact hlt) trivial
end Go.Proofs.Ytmbbdabcbnemiaa
