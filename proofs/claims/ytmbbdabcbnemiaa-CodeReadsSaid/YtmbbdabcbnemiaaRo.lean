import Derived.Test.YtmbbdabcbnemiaaRn
/-! How many steps the statements of codes go through. -/
namespace Go.Proofs.Ytmbbdabcbnemiaa
open Go.Proofs.Ytmbbdabcbnemiaa.Tw
def nodes3 (t : Tree) : Nat := (walkT 251 t [] 1).length
def overS : Nat → Nat → List Stp → Bool
  | _, _, [] => false
  | c, n, x :: l => (great3 x.sub || decide (20000 < n + x.text.size)) || (decide (300 < c + nodes3 x.sub) || overS (c + nodes3 x.sub) (n + x.text.size) l)
def greatS (l : List Stp) : Bool := decide (70 < l.length) || overS 0 0 l
theorem overS_1 {c n : Nat} {x : Stp} {l : List Stp} (h : great3 x.sub = true) : overS c n (x :: l) = true := by
  rw [overS, h, Bool.true_or, Bool.true_or]
theorem overS_2 {c n : Nat} {x : Stp} {l : List Stp} (h : 20000 < n + x.text.size) : overS c n (x :: l) = true := by
  rw [overS, decide_eq_true h, Bool.or_true, Bool.true_or]
theorem overS_3 {c n : Nat} {x : Stp} {l : List Stp} (h : 300 < c + nodes3 x.sub) : overS c n (x :: l) = true := by
  rw [overS, decide_eq_true h, Bool.true_or, Bool.or_true]
theorem overS_no {c n : Nat} {x : Stp} {l : List Stp} (h1 : great3 x.sub = false) (h2 : ¬ 20000 < n + x.text.size) (h3 : ¬ 300 < c + nodes3 x.sub) : overS c n (x :: l) = overS (c + nodes3 x.sub) (n + x.text.size) l := by
  rw [overS, h1, decide_eq_false h2, decide_eq_false h3, Bool.false_or, Bool.false_or, Bool.false_or]
theorem nodes3_le (t : Tree) : nodes3 t ≤ 251 := (walkT_len 251 t [] 1).2 (Nat.zero_le _)
theorem Walk23' (A : Ar) (E : Em) {P : Program} (hP : P = Try.prog) (t : Tree) (hok : t.ok) : TPure P 36 [E.tree.v t, .int .i64 251] (.sl 5 (E.spot.l (walkT 251 t [] 1))) := by
  have h : TPure P 36 [t.av, .int .i64 251] (.sl 5 (spots (walkT 251 t [] 1))) := Walk23 A hP 251 (by decide) (by decide) t hok
  rw [E.av, E.spots] at h
  exact h
set_option maxHeartbeats 2000000 in
theorem GreatSteps8 (A : Ar) (E : Em) (F : EmS) {P : Program} (hP : P = Try.prog) (l : List Stp) (hok : ∀ x ∈ l, x.sub.ok) : TPure P 8 [.sl 9 (F.l.l l)] (.bool (greatS l)) := by
  have hfl := F.l.len l
  have hlk : A.len (F.l.l l) = (l.length : Int) := by rw [A.ok_len, hfl]
  obtain ⟨res, hres⟩ : ∃ b, b = greatS l := ⟨_, rfl⟩
  rw [← hres]
  refine TPure.ofE A T0 (T0_ok hP) (hP ▸ Try.func8) rfl _ rfl (by simp) ?_
  cbv
  ((try cbv) <;> (repeat ((with_reducible refine EW.of ?_); cbv)))
  refine bsplit (fun h => ?_) (fun h => ?_)
  · have h : 70 < l.length := lt_nt (i := 70) h rfl hlk
    ((try cbv) <;> (repeat ((with_reducible refine EW.of ?_); cbv)))
    exact And.intro (by rw [hres, greatS, decide_eq_true h, Bool.true_or]) trivial
  have h70 : l.length ≤ 70 := lt_nf (i := 70) h rfl hlk
  have hres2 : res = overS 0 0 l := by rw [hres, greatS, decide_eq_false (by omega), Bool.false_or]
  ((try cbv) <;> (repeat ((with_reducible refine EW.of ?_); cbv)))
  obtain ⟨S, hS⟩ : ∃ S : LI (Nat × Nat × Nat), S = ⟨fun x => [(11, .int .i64 x.1), (10, .int .i64 (A.len (F.l.l l))), (4, .int .i64 x.2.2), (3, .int .i64 x.2.1), (2, .bool false), (0, .sl 9 (F.l.l l))], fun x => [], fun x => x.1 ≤ l.length ∧ x.2.1 ≤ 300 ∧ x.2.2 ≤ 20000 ∧ res = overS x.2.1 x.2.2 (l.drop x.1), fun x => l.length - x.1⟩ := ⟨_, rfl⟩
  refine TW.loopM A (T0_ok hP) S _ rfl (0, 0, 0) ?_ ?_ ?_
  · rw [hS]; exact ⟨Nat.zero_le _, Nat.zero_le _, Nat.zero_le _, hres2⟩
  · rw [hS]
    cbv
    (repeat (first | exact trivial | refine And.intro (Emb.Pur _ _) ?_ | refine And.intro rfl ?_))
  rintro ⟨j, c, n⟩ hj l1 L1 e1 e2
  rw [hS] at hj e1 e2
  dsimp only at hj e1 e2
  obtain ⟨hj, hc, hn, hov⟩ := hj
  subst e1 e2
  cbv
  ((try cbv) <;> (repeat ((with_reducible refine EW.of ?_); cbv)))
  refine bsplit (fun h => ?_) (fun h => ?_)
  · have h : j < l.length := lt_nt h rfl hlk
    obtain ⟨x, hx⟩ : ∃ x, l[j]? = some x := ⟨_, List.getElem?_eq_getElem h⟩
    have hdr : l.drop j = x :: l.drop (j + 1) := by
      rw [List.drop_eq_getElem_cons h]
      rw [List.getElem?_eq_getElem h] at hx
      rw [Option.some.inj hx]
    have hokx := hok x (List.mem_of_getElem? hx)
    have h7 := Great7 A E hP x.sub hokx
    have h23 := Walk23' A E hP x.sub hokx
    have hn3 := nodes3_le x.sub
    have hl3 : (E.spot.l (walkT 251 x.sub [] 1)).length = nodes3 x.sub := E.spot.len _
    have hk3 : A.len (E.spot.l (walkT 251 x.sub [] 1)) = (nodes3 x.sub : Int) := by rw [A.ok_len, hl3]
    have hget := F.l.get hx
    rw [hdr] at hov
    obtain ⟨g3, hg3⟩ : ∃ g, g = great3 x.sub := ⟨_, rfl⟩
    rw [← hg3] at h7
    generalize hw : walkT 251 x.sub [] 1 = sp at h23 hl3 hk3
    obtain ⟨c2, hc2⟩ : ∃ c2, c2 = c + nodes3 x.sub := ⟨_, rfl⟩
    obtain ⟨n2, hn2⟩ : ∃ n2, n2 = n + x.text.size := ⟨_, rfl⟩
    have hsub : A.op .sub .i64 20000 (n : Int) = ((20000 - n : Nat) : Int) := by rw [sub_i64 rfl rfl (by omega) (by omega)]; omega
    have y1 : g3 = true → res = true := fun e => by rw [hov]; exact overS_1 (by rw [← hg3, e])
    have y2 : 20000 < n2 → res = true := fun e => by rw [hov]; exact overS_2 (by omega)
    have y3 : 300 < c2 → res = true := fun e => by rw [hov]; exact overS_3 (by omega)
    have y4 : g3 = false → ¬ 20000 < n2 → ¬ 300 < c2 → res = overS c2 n2 (l.drop (j + 1)) := fun e1 e2 e3 => by rw [hov, hn2, hc2]; exact overS_no (by rw [← hg3, e1]) (by omega) (by omega)
    have htx : (A.slen x.text) = ((n2 - n : Nat) : Int) := by rw [A.ok_slen]; omega
    have hadd1 : A.op .add .i64 (n : Int) (A.slen x.text) = ((n + (n2 - n) : Nat) : Int) ∨ 9000000000 < n2 := by
      by_cases hb : n2 ≤ 9000000000
      · exact .inl (by rw [htx, add_i64 rfl rfl (by omega) (by omega)]; omega)
      · exact .inr (by omega)
    have hadd2 : A.op .add .i64 (c : Int) (A.len (E.spot.l sp)) = (c2 : Int) := by rw [hk3, add_i64 rfl rfl (by omega) (by omega)]; omega
    clear hov hg3 hw
    have hn2' : n ≤ n2 := by omega
    have hc2' : c2 ≤ 600 := by omega
    clear hn2 hc2 hdr hx hl3 hk3 hn3
    obtain ⟨op, id, par, pl, text, i, k, s, ks⟩ := x
    rw [F.v E] at hget
    dsimp only at h7 h23 htx hadd1
    rw [E.node] at h7 h23
    ((try cbv) <;> (repeat ((with_reducible refine EW.of ?_); cbv)))
    refine ⟨j, _, rfl, hget, ?_⟩
    cbv
    ((try cbv) <;> (repeat ((with_reducible refine EW.of ?_); cbv)))
    (refine ⟨Ent.of (hP ▸ Try.func7) rfl, ?_⟩; refine TC.pureE h7 ?_; cbv; (repeat (first | exact trivial | refine And.intro (Emb.Pur _ _) ?_ | refine And.intro rfl ?_ | refine And.intro (Pur.mk rfl) ?_ | refine And.intro (Pur.mk (by assumption)) ?_)); ((try cbv) <;> (repeat ((with_reducible refine EW.of ?_); cbv))))
    cases g3 with
    | true =>
      cbv
      ((try cbv) <;> (repeat ((with_reducible refine EW.of ?_); cbv)))
      rw [y1 rfl]
      exact And.intro rfl trivial
    | false =>
      cbv
      ((try cbv) <;> (repeat ((with_reducible refine EW.of ?_); cbv)))
      refine ⟨j, _, rfl, hget, ?_⟩
      cbv
      ((try cbv) <;> (repeat ((with_reducible refine EW.of ?_); cbv)))
      refine bsplit (fun h2 => ?_) (fun h2 => ?_)
      · have h2 : 20000 - n < n2 - n := lt_nt h2 hsub htx
        ((try cbv) <;> (repeat ((with_reducible refine EW.of ?_); cbv)))
        rw [y2 (by omega)]
        exact And.intro rfl trivial
      · have h2 : n2 - n ≤ 20000 - n := lt_nf h2 hsub htx
        have hadd : A.op .add .i64 (n : Int) (A.slen text) = (n2 : Int) := by
          rcases hadd1 with e | e
          · rw [e, Nat.add_sub_cancel' hn2']
          · omega
        ((try cbv) <;> (repeat ((with_reducible refine EW.of ?_); cbv)))
        refine ⟨j, _, rfl, hget, ?_⟩
        cbv
        ((try cbv) <;> (repeat ((with_reducible refine EW.of ?_); cbv)))
        refine ⟨j, _, rfl, hget, ?_⟩
        cbv
        ((try cbv) <;> (repeat ((with_reducible refine EW.of ?_); cbv)))
        (refine ⟨Ent.of (hP ▸ Try.func36) rfl, ?_⟩; refine TC.pureE h23 ?_; cbv; (repeat (first | exact trivial | refine And.intro (Emb.Pur _ _) ?_ | refine And.intro rfl ?_ | refine And.intro (Pur.mk rfl) ?_ | refine And.intro (Pur.mk (by assumption)) ?_)); ((try cbv) <;> (repeat ((with_reducible refine EW.of ?_); cbv))))
        refine bsplit (fun h3 => ?_) (fun h3 => ?_)
        · have h3 : 300 < c2 := lt_nt (i := 300) h3 rfl hadd2
          ((try cbv) <;> (repeat ((with_reducible refine EW.of ?_); cbv)))
          rw [y3 h3]
          exact And.intro rfl trivial
        · have h3 : c2 ≤ 300 := lt_nf (i := 300) h3 rfl hadd2
          ((try cbv) <;> (repeat ((with_reducible refine EW.of ?_); cbv)))
          refine LM.of (j + 1, c2, n2) rfl ?_ ?_ ?_
          · rw [hS]; exact ⟨by show j + 1 ≤ l.length; omega, h3, by show n2 ≤ 20000; omega, y4 rfl (by omega) (by omega)⟩
          · rw [hS]; show l.length - (j + 1) < l.length - j; omega
          · rw [hS]
            cbv
            (repeat (first | exact trivial | refine And.intro (Emb.Pur _ _) ?_ | refine And.intro hadd ?_ | refine And.intro hadd2 ?_ | refine And.intro (inc_eq A (by omega)) ?_ | refine And.intro rfl ?_))
  · have h : l.length ≤ j := lt_nf h rfl hlk
    rw [List.drop_eq_nil_of_le h] at hov
    ((try cbv) <;> (repeat ((with_reducible refine EW.of ?_); cbv)))
    rw [hov]
    exact And.intro rfl trivial
end Go.Proofs.Ytmbbdabcbnemiaa
