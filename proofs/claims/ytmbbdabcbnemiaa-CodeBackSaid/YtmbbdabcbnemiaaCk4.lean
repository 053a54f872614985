import Derived.Test.YtmbbdabcbnemiaaCk3
import Derived.Test.YtmbbdabcbnemiaaTw7
/-! How many steps the statements of codes go through. -/
namespace Go.Proofs.Ytmbbdabcbnemiaa
open Go.Proofs.Ytmbbdabcbnemiaa.Tw
def nodes3 (t : Tree) : Nat := (walkT 251 t [] 1).length
def overS : Nat → Nat → List Stp → Bool
  | _, _, [] => false
  | c, n, x :: l => (great3 x.sub || decide (20000 < n + x.text.size)) || (decide (300 < c + nodes3 x.sub) || overS (c + nodes3 x.sub) (n + x.text.size) l)
def greatS (l : List Stp) : Bool := decide (70 < l.length) || overS 0 0 l
theorem overS_1 {c n : Nat} {x : Stp} {l : List Stp} (h : great3 x.sub = true) : overS c n (x :: l) = true := by
  rw [overS, h, Bool.true_or, Bool.true_or]
theorem overS_2 {c n : Nat} {x : Stp} {l : List Stp} (h : 20000 < n + x.text.size) : overS c n (x :: l) = true := by
  rw [overS, decide_eq_true h, Bool.or_true, Bool.true_or]
theorem overS_3 {c n : Nat} {x : Stp} {l : List Stp} (h : 300 < c + nodes3 x.sub) : overS c n (x :: l) = true := by
  rw [overS, decide_eq_true h, Bool.true_or, Bool.or_true]
theorem overS_no {c n : Nat} {x : Stp} {l : List Stp} (h1 : great3 x.sub = false) (h2 : ¬ 20000 < n + x.text.size) (h3 : ¬ 300 < c + nodes3 x.sub) : overS c n (x :: l) = overS (c + nodes3 x.sub) (n + x.text.size) l := by
  rw [overS, h1, decide_eq_false h2, decide_eq_false h3, Bool.false_or, Bool.false_or, Bool.false_or]
theorem nodes3_le (t : Tree) : nodes3 t ≤ 251 := (walkT_len 251 t [] 1).2 (Nat.zero_le _)
theorem Walk23' (A : Ar) (E : Em) {P : Program} (hP : P = Try.prog) (t : Tree) (hok : t.ok) : TPure P 36 [E.tree.v t, .int .i64 251] (.sl 5 (E.spot.l (walkT 251 t [] 1))) := by
  have h : TPure P 36 [t.av, .int .i64 251] (.sl 5 (spots (walkT 251 t [] 1))) := Walk23 A hP 251 (by decide) (by decide) t hok
  rw [E.av, E.spots] at h
  exact h
set_option maxHeartbeats 2000000 in
theorem GreatSteps8 (A : Ar) (E : Em) (F : EmS) {P : Program} (hP : P = Try.prog) (l : List Stp) (hok : ∀ x ∈ l, x.sub.ok) : TPure P 8 [.sl 9 (F.l.l l)] (.bool (greatS l)) := by
  have hfl := F.l.len l
  have hlk : A.len (F.l.l l) = (l.length : Int) := by rw [A.ok_len, hfl]
  obtain ⟨res, hres⟩ : ∃ b, b = greatS l := ⟨_, rfl⟩
  rw [← hres]
  refine TPure.ofE A T0 (T0_ok hP) (hP ▸ Try.func8) rfl _ rfl (by simp) ?_
  cbv
  ((try cbv) <;> (repeat ((with_reducible refine EW.of ?_); cbv)))
  refine bsplit (fun h => ?_) (fun h => ?_)
  · have h : 70 < l.length := lt_nt (i := 70) h rfl hlk
    ((try cbv) <;> (repeat ((with_reducible refine EW.of ?_); cbv)))
    exact And.intro (by rw [hres, greatS, decide_eq_true h, Bool.true_or]) trivial
  have h70 : l.length ≤ 70 := lt_nf (i := 70) h rfl hlk
  have hres2 : res = overS 0 0 l := by rw [hres, greatS, decide_eq_false (by omega), Bool.false_or]
  ((try cbv) <;> (repeat ((with_reducible refine EW.of ?_); cbv)))
  obtain ⟨S, hS⟩ : ∃ S : LI (Nat × Nat × Nat), S = ⟨fun x => [(11, .int .i64 x.1), (10, .int .i64 (A.len (F.l.l l))), (4, .int .i64 x.2.2), (3, .int .i64 x.2.1), (2, .bool false), (0, .sl 9 (F.l.l l))], fun x => [], fun x => x.1 ≤ l.length ∧ x.2.1 ≤ 300 ∧ x.2.2 ≤ 20000 ∧ res = overS x.2.1 x.2.2 (l.drop x.1), fun x => l.length - x.1⟩ := ⟨_, rfl⟩
  refine TW.loopM A (T0_ok hP) S _ rfl (0, 0, 0) ?_ ?_ ?_
  · rw [hS]; exact ⟨Nat.zero_le _, Nat.zero_le _, Nat.zero_le _, hres2⟩
  · rw [hS]
    cbv
    (repeat (first | exact trivial | refine And.intro (Emb.Pur _ _) ?_ | refine And.intro rfl ?_))
  rintro ⟨j, c, n⟩ hj l1 L1 e1 e2
  rw [hS] at hj e1 e2
  dsimp only at hj e1 e2
  obtain ⟨hj, hc, hn, hov⟩ := hj
  subst e1 e2
  cbv
  ((try cbv) <;> (repeat ((with_reducible refine EW.of ?_); cbv)))
  refine bsplit (fun h => ?_) (fun h => ?_)
  · have h : j < l.length := lt_nt h rfl hlk
    obtain ⟨x, hx⟩ : ∃ x, l[j]? = some x := ⟨_, List.getElem?_eq_getElem h⟩
    have hdr : l.drop j = x :: l.drop (j + 1) := by
      rw [List.drop_eq_getElem_cons h]
      rw [List.getElem?_eq_getElem h] at hx
      rw [Option.some.inj hx]
    have hokx := hok x (List.mem_of_getElem? hx)
    have h7 := Great7 A E hP x.sub hokx
    have h23 := Walk23' A E hP x.sub hokx
    have hn3 := nodes3_le x.sub
    have hl3 : (E.spot.l (walkT 251 x.sub [] 1)).length = nodes3 x.sub := E.spot.len _
    have hk3 : A.len (E.spot.l (walkT 251 x.sub [] 1)) = (nodes3 x.sub : Int) := by rw [A.ok_len, hl3]
    have hget := F.l.get hx
    rw [hdr] at hov
    obtain ⟨g3, hg3⟩ : ∃ g, g = great3 x.sub := ⟨_, rfl⟩
    rw [← hg3] at h7
    generalize hw : walkT 251 x.sub [] 1 = sp at h23 hl3 hk3
    obtain ⟨c2, hc2⟩ : ∃ c2, c2 = c + nodes3 x.sub := ⟨_, rfl⟩
    obtain ⟨n2, hn2⟩ : ∃ n2, n2 = n + x.text.size := ⟨_, rfl⟩
    have hsub : A.op .sub .i64 20000 (n : Int) = ((20000 - n : Nat) : Int) := by rw [sub_i64 rfl rfl (by omega) (by omega)]; omega
    have y1 : g3 = true → res = true := fun e => by rw [hov]; exact overS_1 (by rw [← hg3, e])
    have y2 : 20000 < n2 → res = true := fun e => by rw [hov]; exact overS_2 (by omega)
    have y3 : 300 < c2 → res = true := fun e => by rw [hov]; exact overS_3 (by omega)
    have y4 : g3 = false → ¬ 20000 < n2 → ¬ 300 < c2 → res = overS c2 n2 (l.drop (j + 1)) := fun e1 e2 e3 => by rw [hov, hn2, hc2]; exact overS_no (by rw [← hg3, e1]) (by omega) (by omega)
    have htx : (A.slen x.text) = ((n2 - n : Nat) : Int) := by rw [A.ok_slen]; omega
    have hadd1 : A.op .add .i64 (n : Int) (A.slen x.text) = ((n + (n2 - n) : Nat) : Int) ∨ 9000000000 < n2 := by
      by_cases hb : n2 ≤ 9000000000
      · exact .inl (by rw [htx, add_i64 rfl rfl (by omega) (by omega)]; omega)
      · exact .inr (by omega)
    have hadd2 : A.op .add .i64 (c : Int) (A.len (E.spot.l sp)) = (c2 : Int) := by rw [hk3, add_i64 rfl rfl (by omega) (by omega)]; omega
    clear hov hg3 hw
    have hn2' : n ≤ n2 := by omega
    have hc2' : c2 ≤ 600 := by omega
    clear hn2 hc2 hdr hx hl3 hk3 hn3
    obtain ⟨op, id, par, pl, text, i, k, s, ks⟩ := x
    rw [F.v E] at hget
    dsimp only at h7 h23 htx hadd1
    rw [E.node] at h7 h23
    ((try cbv) <;> (repeat ((with_reducible refine EW.of ?_); cbv)))
    refine ⟨j, _, rfl, hget, ?_⟩
    cbv
    ((try cbv) <;> (repeat ((with_reducible refine EW.of ?_); cbv)))
    (refine ⟨Ent.of (hP ▸ Try.func7) rfl, ?_⟩; refine TC.pureE h7 ?_; cbv; (repeat (first | exact trivial | refine And.intro (Emb.Pur _ _) ?_ | refine And.intro rfl ?_ | refine And.intro (Pur.mk rfl) ?_ | refine And.intro (Pur.mk (by assumption)) ?_)); ((try cbv) <;> (repeat ((with_reducible refine EW.of ?_); cbv))))
    cases g3 with
    | true =>
      cbv
      ((try cbv) <;> (repeat ((with_reducible refine EW.of ?_); cbv)))
      rw [y1 rfl]
      exact And.intro rfl trivial
    | false =>
      cbv
      ((try cbv) <;> (repeat ((with_reducible refine EW.of ?_); cbv)))
      refine ⟨j, _, rfl, hget, ?_⟩
      cbv
      ((try cbv) <;> (repeat ((with_reducible refine EW.of ?_); cbv)))
      refine bsplit (fun h2 => ?_) (fun h2 => ?_)
      · have h2 : 20000 - n < n2 - n := lt_nt h2 hsub htx
        ((try cbv) <;> (repeat ((with_reducible refine EW.of ?_); cbv)))
        rw [y2 (by omega)]
        exact And.intro rfl trivial
      · have h2 : n2 - n ≤ 20000 - n := lt_nf h2 hsub htx
        have hadd : A.op .add .i64 (n : Int) (A.slen text) = (n2 : Int) := by
          rcases hadd1 with e | e
          · rw [e, Nat.add_sub_cancel' hn2']
          · omega
        ((try cbv) <;> (repeat ((with_reducible refine EW.of ?_); cbv)))
        refine ⟨j, _, rfl, hget, ?_⟩
        cbv
        ((try cbv) <;> (repeat ((with_reducible refine EW.of ?_); cbv)))
        refine ⟨j, _, rfl, hget, ?_⟩
        cbv
        ((try cbv) <;> (repeat ((with_reducible refine EW.of ?_); cbv)))
        (refine ⟨Ent.of (hP ▸ Try.func36) rfl, ?_⟩; refine TC.pureE h23 ?_; cbv; (repeat (first | exact trivial | refine And.intro (Emb.Pur _ _) ?_ | refine And.intro rfl ?_ | refine And.intro (Pur.mk rfl) ?_ | refine And.intro (Pur.mk (by assumption)) ?_)); ((try cbv) <;> (repeat ((with_reducible refine EW.of ?_); cbv))))
        refine bsplit (fun h3 => ?_) (fun h3 => ?_)
        · have h3 : 300 < c2 := lt_nt (i := 300) h3 rfl hadd2
          ((try cbv) <;> (repeat ((with_reducible refine EW.of ?_); cbv)))
          rw [y3 h3]
          exact And.intro rfl trivial
        · have h3 : c2 ≤ 300 := lt_nf (i := 300) h3 rfl hadd2
          ((try cbv) <;> (repeat ((with_reducible refine EW.of ?_); cbv)))
          refine LM.of (j + 1, c2, n2) rfl ?_ ?_ ?_
          · rw [hS]; exact ⟨by show j + 1 ≤ l.length; omega, h3, by show n2 ≤ 20000; omega, y4 rfl (by omega) (by omega)⟩
          · rw [hS]; show l.length - (j + 1) < l.length - j; omega
          · rw [hS]
            cbv
            (repeat (first | exact trivial | refine And.intro (Emb.Pur _ _) ?_ | refine And.intro hadd ?_ | refine And.intro hadd2 ?_ | refine And.intro (inc_eq A (by omega)) ?_ | refine And.intro rfl ?_))
  · have h : l.length ≤ j := lt_nf h rfl hlk
    rw [List.drop_eq_nil_of_le h] at hov
    ((try cbv) <;> (repeat ((with_reducible refine EW.of ?_); cbv)))
    rw [hov]
    exact And.intro rfl trivial
end Go.Proofs.Ytmbbdabcbnemiaa

/-! What is not great is not long. -/
namespace Go.Proofs.Ytmbbdabcbnemiaa
open Go.Proofs.Ytmbbdabcbnemiaa.Tw
def tot : List (Tree × Nat) → Nat
  | [] => 0
  | x :: l => 32 + tsz x + tot l
theorem tot_app : ∀ a b : List (Tree × Nat), tot (a ++ b) = tot a + tot b
  | [], b => by rw [List.nil_append, tot, Nat.zero_add]
  | x :: a, b => by rw [List.cons_append, tot, tot, tot_app a b]; omega
theorem nodeBs_len (i k : Int) (s : ByteArray) (ks : List Tree) : (nodeBs (.node i k s ks)).length = 32 + s.size + (nodesBs ks).length := by
  have htx : s.data.toList.length = s.size := by rw [Array.length_toList]; rfl
  rw [nodeBs]
  simp only [List.length_append, numBs_len, htx]
  omega
mutual
theorem walkT_tot (m : Nat) : ∀ (t : Tree) (l : List (Tree × Nat)) (d : Nat), (walkT m t l d).length < m → tot (walkT m t l d) = tot l + (nodeBs t).length
  | .node i k s ks, l, d, h => by
    simp only [walkT] at h ⊢
    split at h
    · omega
    · rename_i hm
      rw [if_neg hm, walkK_tot m ks _ _ h, tot_app, nodeBs_len]
      simp only [tot, tsz]
      omega
theorem walkK_tot (m : Nat) : ∀ (ts : List Tree) (l : List (Tree × Nat)) (d : Nat), (walkK m ts l d).length < m → tot (walkK m ts l d) = tot l + (nodesBs ts).length
  | [], l, d, h => rfl
  | t :: ts, l, d, h => by
    simp only [walkK] at h ⊢
    have h2 := (walkK_len m ts (walkT m t l d) d).1
    rw [walkK_tot m ts _ _ h, walkT_tot m t l d (by omega), nodesBs, List.length_append]
    omega
end
theorem over3_tot : ∀ (l : List (Tree × Nat)) (n : Nat), over3 n l = false → n ≤ 20000 → tot l ≤ 32 * l.length + (20000 - n)
  | [], n, h, hn => Nat.zero_le _
  | x :: l, n, h, hn => by
    simp only [over3, Bool.or_eq_false_iff, decide_eq_false_iff_not] at h
    have := over3_tot l (n + tsz x) h.2 (by omega)
    rw [tot, List.length_cons]
    omega
theorem great3_len {t : Tree} (h : great3 t = false) : (nodeBs t).length ≤ 28000 := by
  simp only [great3, Bool.or_eq_false_iff, decide_eq_false_iff_not] at h
  have h1 := walkT_tot 251 t [] 1 (by omega)
  have h2 := over3_tot _ 0 h.1 (by omega)
  rw [tot] at h1
  omega
theorem stepBs_len (x : Stp) : (stepBs x).length = 33 + x.text.size + (nodeBs x.sub).length := by
  have htx : x.text.data.toList.length = x.text.size := by rw [Array.length_toList]; rfl
  rw [stepBs]
  simp only [List.length_append, numBs_len, htx, List.length_cons, List.length_nil]
  omega
theorem overS_len : ∀ (l : List Stp) (c n : Nat), overS c n l = false → n ≤ 20000 → (stepsBs l).length ≤ 28033 * l.length + (20000 - n)
  | [], c, n, h, hn => Nat.zero_le _
  | x :: l, c, n, h, hn => by
    simp only [overS, Bool.or_eq_false_iff, decide_eq_false_iff_not] at h
    have h1 := overS_len l _ _ h.2.2 (by omega)
    have h2 := great3_len h.1.1
    rw [stepsBs, List.length_append, stepBs_len, List.length_cons]
    omega
theorem greatS_len {l : List Stp} (h : greatS l = false) : l.length ≤ 70 ∧ (stepsBs l).length ≤ 2000000 := by
  simp only [greatS, Bool.or_eq_false_iff, decide_eq_false_iff_not] at h
  have := overS_len l 0 0 h.2 (by omega)
  exact ⟨by omega, by omega⟩
end Go.Proofs.Ytmbbdabcbnemiaa

/-! What was put is read as it was: nodes, steps. -/
namespace Go.Proofs.Ytmbbdabcbnemiaa
open Go.Proofs.Ytmbbdabcbnemiaa.Tw
mutual
def fullT : Tree → Nat → List (Tree × Nat)
  | .node i k s ks, d => (.node i k s ks, d) :: fullK ks (d + 1)
def fullK : List Tree → Nat → List (Tree × Nat)
  | [], _ => []
  | t :: ts, d => fullT t d ++ fullK ts d
end
mutual
theorem walkT_full (m : Nat) : ∀ (t : Tree) (l : List (Tree × Nat)) (d : Nat), (walkT m t l d).length < m → walkT m t l d = l ++ fullT t d
  | .node i k s ks, l, d, h => by
    simp only [walkT] at h ⊢
    split at h
    · omega
    · rename_i hm
      rw [if_neg hm, walkK_full m ks _ _ h, fullT, List.append_assoc]
      rfl
theorem walkK_full (m : Nat) : ∀ (ts : List Tree) (l : List (Tree × Nat)) (d : Nat), (walkK m ts l d).length < m → walkK m ts l d = l ++ fullK ts d
  | [], l, d, h => by rw [walkK, fullK, List.append_nil]
  | t :: ts, l, d, h => by
    simp only [walkK] at h ⊢
    have h2 := (walkK_len m ts (walkT m t l d) d).1
    rw [walkK_full m ts _ _ h, walkT_full m t l d (by omega), fullK, List.append_assoc]
end
/-- All numbers in range. -/
inductive Tree.nums : Tree → Prop
  | node {i k : Int} {s : ByteArray} {ks : List Tree} (hi : -9223372036854775808 ≤ i ∧ i ≤ 9223372036854775807) (hk : -9223372036854775808 ≤ k ∧ k ≤ 9223372036854775807) (hks : ∀ t ∈ ks, t.nums) : Tree.nums (.node i k s ks)
def okD (l : List (Tree × Nat)) : Prop := ∀ x ∈ l, x.2 ≤ 40
theorem okD_app {a b : List (Tree × Nat)} : okD (a ++ b) ↔ okD a ∧ okD b := by
  unfold okD
  exact ⟨fun h => ⟨fun x hx => h x (List.mem_append_left _ hx), fun x hx => h x (List.mem_append_right _ hx)⟩, fun h x hx => (List.mem_append.1 hx).elim (h.1 x) (h.2 x)⟩
theorem drop_app {bs x y : List UInt8} {a : Nat} (h : bs.drop a = x ++ y) (ha : a ≤ bs.length) : bs.drop (a + x.length) = y ∧ a + x.length ≤ bs.length := by
  have hlen := congrArg List.length h
  rw [List.length_drop, List.length_append] at hlen
  exact ⟨by rw [← List.drop_drop, h, List.drop_append_of_le_length (Nat.le_refl _), List.drop_of_length_le (Nat.le_refl _), List.nil_append], by omega⟩
theorem nodeR_put (A : Ar) {bs : List UInt8} (hl : bs.length ≤ 1000000000) : ∀ (f d : Nat), d + f = 41 → ∀ (t : Tree) (c a : Nat) (rest : List UInt8), t.nums → a ≤ bs.length → bs.drop a = nodeBs t ++ rest →
    nodeR A bs f c a = .ok t (c + (fullT t d).length) (a + (nodeBs t).length) ∨ ((∃ e c2 a2, nodeR A bs f c a = .no e c2 a2) ∧ ¬ (okD (fullT t d) ∧ c + (fullT t d).length ≤ 200)) := by
  intro f
  induction f with
  | zero =>
    intro d hd t c a rest ht ha h
    obtain ⟨i, k, s, ks⟩ := t
    refine .inr ⟨⟨_, _, _, rfl⟩, fun hx => ?_⟩
    have := hx.1 (.node i k s ks, d) (by rw [fullT]; exact List.mem_cons_self)
    have : d ≤ 40 := this
    omega
  | succ f ih =>
    intro d hd t c a rest ht ha h
    have hK : ∀ (ks : List Tree) (c a : Nat) (rest : List UInt8), (∀ t ∈ ks, t.nums) → a ≤ bs.length → bs.drop a = nodesBs ks ++ rest →
        listR (nodeR A bs f) ks.length c a = .ok ks (c + (fullK ks (d + 1)).length) (a + (nodesBs ks).length) ∨ ((∃ e c2 a2, listR (nodeR A bs f) ks.length c a = .no e c2 a2) ∧ ¬ (okD (fullK ks (d + 1)) ∧ c + (fullK ks (d + 1)).length ≤ 200)) := by
      intro ks
      induction ks with
      | nil => intro c a rest _ ha h; exact .inl rfl
      | cons t ts iht =>
        intro c a rest ht ha h
        rw [nodesBs, List.append_assoc] at h
        rw [List.length_cons, listR, fullK, nodesBs]
        obtain ⟨h2, ha2⟩ := drop_app h ha
        rcases ih (d + 1) (by omega) t c a _ (ht t List.mem_cons_self) ha h with h1 | ⟨⟨e, c2, a2, h1⟩, hno⟩
        · rw [h1]
          simp only [RN.bind]
          rcases iht (c + (fullT t (d + 1)).length) (a + (nodeBs t).length) rest (fun x hx => ht x (List.mem_cons_of_mem _ hx)) ha2 h2 with h3 | ⟨⟨e, c2, a2, h3⟩, hno⟩
          · rw [h3]
            simp only [List.length_append, Nat.add_assoc]
            exact .inl trivial
          · rw [h3]
            refine .inr ⟨⟨_, _, _, rfl⟩, fun hx => hno ⟨(okD_app.1 hx.1).2, ?_⟩⟩
            have := hx.2
            rw [List.length_append] at this
            omega
        · rw [h1]
          refine .inr ⟨⟨_, _, _, rfl⟩, fun hx => hno ⟨(okD_app.1 hx.1).1, ?_⟩⟩
          have := hx.2
          rw [List.length_append] at this
          omega
    cases ht with
    | @node i k s ks hi hk hks =>
    rw [nodeR]
    rw [fullT]
    by_cases h1 : 200 < c + 1
    · rw [if_pos h1]
      refine .inr ⟨⟨_, _, _, rfl⟩, fun hx => ?_⟩
      have := hx.2
      rw [List.length_cons] at this
      omega
    rw [if_neg h1]
    rw [nodeBs] at h ⊢
    simp only [List.append_assoc] at h
    obtain ⟨n1, n2, n3⟩ := numR_put A hi.1 hi.2 h ha
    obtain ⟨m1, m2, m3⟩ := numR_put A hk.1 hk.2 n2 n3
    rw [← List.append_assoc] at m2
    obtain ⟨t1, t2, t3⟩ := textR_put A hl m2 m3
    have hge := nodesBs_ge ks
    have hrl := congrArg List.length t2
    simp only [List.length_drop, List.length_append, numBs_len] at hrl
    have hc := countR_put A (n := ks.length) (size := 32) (most := bs.length) hl t2 t3 (by omega) (by rw [show max (32 : Int) 1 = 32 from rfl, List.length_append]; omega) (by omega)
    obtain ⟨q1, q2⟩ := drop_app t2 t3
    rw [numBs_len] at q1 q2
    simp only [RR.toN, RN.bind, n1, m1, t1, hc, Int.toNat_natCast]
    rcases hK ks (c + 1) _ rest hks q2 q1 with h3 | ⟨⟨e, c2, a2, h3⟩, hno⟩
    · rw [h3]
      refine .inl ?_
      have htx : s.data.toList.length = s.size := by rw [Array.length_toList]; rfl
      have e1 : c + 1 + (fullK ks (d + 1)).length = c + ((Tree.node i k s ks, d) :: fullK ks (d + 1)).length := by rw [List.length_cons]; omega
      have e2 : a + 8 + 8 + (8 + s.size) + 8 + (nodesBs ks).length = a + (numBs i ++ (numBs k ++ (numBs s.size ++ s.data.toList ++ (numBs ks.length ++ nodesBs ks)))).length := by
        simp only [List.length_append, numBs_len, htx]; omega
      rw [e1, e2]
    · rw [h3]
      refine .inr ⟨⟨_, _, _, rfl⟩, fun hx => hno ⟨fun x hx2 => hx.1 x (List.mem_cons_of_mem _ hx2), ?_⟩⟩
      have := hx.2
      rw [List.length_cons] at this
      omega
/-- A step's numbers in range. -/
def Stp.nums (x : Stp) : Prop := (-128 ≤ x.op ∧ x.op ≤ 127) ∧ (-9223372036854775808 ≤ x.id ∧ x.id ≤ 9223372036854775807) ∧ (-9223372036854775808 ≤ x.par ∧ x.par ≤ 9223372036854775807) ∧ (-9223372036854775808 ≤ x.pl ∧ x.pl ≤ 9223372036854775807) ∧ x.sub.nums
theorem op_back {op : Int} (h1 : -128 ≤ op) (h2 : op ≤ 127) : IntKind.i8.wrap (opB op).toNat = op := by
  unfold opB
  rw [byte_ofInt (wrap_u8 _)]
  simp only [IntKind.wrap, IntKind.signed, IntKind.bits, Bool.false_and, Bool.true_and]
  simp
  split <;> omega
theorem smallR_put (A : Ar) {bs rest : List UInt8} {a : Nat} {op : Int} (h1 : -128 ≤ op) (h2 : op ≤ 127) (h : bs.drop a = [opB op] ++ rest) (ha : a ≤ bs.length) : smallR A bs a = .ok op (a + 1) := by
  have hlen := congrArg List.length h
  rw [List.length_drop, List.length_append] at hlen
  simp only [List.length_cons, List.length_nil] at hlen
  unfold smallR takeR
  rw [if_pos (by omega), h]
  simp only [RR.bind, List.singleton_append, List.take_succ_cons, List.take_zero, List.headD_cons]
  rw [A.ok_wrap, op_back h1 h2]
theorem nodeTR_put (A : Ar) {bs : List UInt8} (hl : bs.length ≤ 1000000000) {t : Tree} {a : Nat} {rest : List UInt8} (ht : t.nums) (ha : a ≤ bs.length) (h : bs.drop a = nodeBs t ++ rest) :
    nodeTR A bs a = .ok t (a + (nodeBs t).length) ∨ ((∃ e a2, nodeTR A bs a = .no e a2) ∧ ¬ (okD (fullT t 1) ∧ (fullT t 1).length ≤ 200)) := by
  unfold nodeTR
  rcases nodeR_put A hl 40 1 rfl t 0 a rest ht ha h with h1 | ⟨⟨e, c2, a2, h1⟩, h2⟩
  · rw [h1]; exact .inl rfl
  · rw [h1]; exact .inr ⟨⟨_, _, rfl⟩, by rw [Nat.zero_add] at h2; exact h2⟩
theorem stepR_put (A : Ar) {bs : List UInt8} (hl : bs.length ≤ 1000000000) {x : Stp} {a : Nat} {rest : List UInt8} (hx : x.nums) (ha : a ≤ bs.length) (h : bs.drop a = stepBs x ++ rest) :
    stepR A bs a = .ok x (a + (stepBs x).length) ∨ ((∃ e a2, stepR A bs a = .no e a2) ∧ ¬ (okD (fullT x.sub 1) ∧ (fullT x.sub 1).length ≤ 200)) := by
  obtain ⟨op, id, par, pl, s, t⟩ := x
  obtain ⟨h0, h1, h2, h3, h4⟩ := hx
  dsimp only at h0 h1 h2 h3 h4
  rw [stepBs] at h
  simp only [List.append_assoc] at h
  have k0 := smallR_put A h0.1 h0.2 h ha
  obtain ⟨d0, e0⟩ := drop_app h ha
  rw [show [opB op].length = 1 from rfl] at d0 e0
  obtain ⟨k1, d1, e1⟩ := numR_put A h1.1 h1.2 d0 e0
  obtain ⟨k2, d2, e2⟩ := numR_put A h2.1 h2.2 d1 e1
  obtain ⟨k3, d3, e3⟩ := numR_put A h3.1 h3.2 d2 e2
  rw [← List.append_assoc] at d3
  obtain ⟨k4, d4, e4⟩ := textR_put A hl d3 e3
  unfold stepR
  rw [stepBs_len]
  simp only [RR.bind, k0, k1, k2, k3, k4]
  rcases nodeTR_put A hl h4 e4 d4 with h5 | ⟨⟨e, a2, h5⟩, h6⟩
  · rw [h5]
    refine .inl ?_
    have e6 : a + 1 + 8 + 8 + 8 + (8 + s.size) + (nodeBs t).length = a + (33 + s.size + (nodeBs t).length) := by omega
    simp only [e6]
  · rw [h5]
    exact .inr ⟨⟨_, _, rfl⟩, h6⟩
theorem listS_put (A : Ar) {bs : List UInt8} (hl : bs.length ≤ 1000000000) : ∀ (l : List Stp) (c a : Nat) (rest : List UInt8), (∀ x ∈ l, x.nums) → a ≤ bs.length → bs.drop a = stepsBs l ++ rest →
    listR (oneS A bs) l.length c a = .ok l c (a + (stepsBs l).length) ∨ ((∃ e c2 a2, listR (oneS A bs) l.length c a = .no e c2 a2) ∧ ¬ ∀ x ∈ l, okD (fullT x.sub 1) ∧ (fullT x.sub 1).length ≤ 200)
  | [], c, a, rest, _, ha, h => .inl rfl
  | x :: l, c, a, rest, hx, ha, h => by
    rw [stepsBs, List.append_assoc] at h
    obtain ⟨h2, ha2⟩ := drop_app h ha
    rw [List.length_cons, listR]
    rcases stepR_put A hl (hx x List.mem_cons_self) ha h with h1 | ⟨⟨e, a2, h1⟩, hno⟩
    · have ho : oneS A bs c a = .ok x c (a + (stepBs x).length) := by unfold oneS; rw [h1]; rfl
      rw [ho]
      simp only [RN.bind]
      rcases listS_put A hl l c _ rest (fun y hy => hx y (List.mem_cons_of_mem _ hy)) ha2 h2 with h3 | ⟨⟨e, c2, a2, h3⟩, hno⟩
      · rw [h3, stepsBs, List.length_append, ← Nat.add_assoc]
        exact .inl rfl
      · rw [h3]
        exact .inr ⟨⟨_, _, _, rfl⟩, fun hh => hno fun y hy => hh y (List.mem_cons_of_mem _ hy)⟩
    · have ho : oneS A bs c a = .no e c a2 := by unfold oneS; rw [h1]; rfl
      rw [ho]
      exact .inr ⟨⟨_, _, _, rfl⟩, fun hh => hno (hh x List.mem_cons_self)⟩
theorem stepsR_put (A : Ar) {bs : List UInt8} (hl : bs.length ≤ 1000000000) {l : List Stp} {a : Nat} {rest : List UInt8} (hx : ∀ x ∈ l, x.nums) (ha : a ≤ bs.length) (h : bs.drop a = (numBs l.length ++ stepsBs l) ++ rest) :
    stepsR A bs a = .ok l (a + (numBs l.length ++ stepsBs l).length) ∨ ((∃ e a2, stepsR A bs a = .no e a2) ∧ ¬ (l.length ≤ 60 ∧ ∀ x ∈ l, okD (fullT x.sub 1) ∧ (fullT x.sub 1).length ≤ 200)) := by
  rw [List.append_assoc] at h
  have hlen := congrArg List.length h
  simp only [List.length_drop, List.length_append, numBs_len] at hlen
  have hge : 57 * l.length ≤ (stepsBs l).length := by
    clear h hlen hx
    induction l with
    | nil => exact Nat.le_refl _
    | cons x l ih =>
      rw [stepsBs, List.length_append, List.length_cons, stepBs_len]
      obtain ⟨op, id, par, pl, s, ⟨i, k, s2, ks⟩⟩ := x
      rw [nodeBs_len]
      omega
  by_cases h60 : l.length ≤ 60
  · have hc := countR_put A (n := l.length) (size := 57) (most := 60) hl h ha (by omega) (by rw [show max (57 : Int) 1 = 57 from rfl, List.length_append]; omega) (by omega)
    obtain ⟨d1, e1⟩ := drop_app h ha
    rw [numBs_len] at d1 e1
    unfold stepsR
    simp only [hc, RR.bind, Int.toNat_natCast]
    rw [List.length_append, numBs_len, ← Nat.add_assoc]
    rcases listS_put A hl l 0 _ rest hx e1 d1 with h3 | ⟨⟨e, c2, a2, h3⟩, hno⟩
    · rw [h3]; exact .inl rfl
    · rw [h3]; exact .inr ⟨⟨_, _, rfl⟩, fun hh => hno hh.2⟩
  · refine .inr ⟨?_, fun hh => h60 hh.1⟩
    obtain ⟨k1, k2, k3⟩ := numR_put A (n := l.length) (by omega) (by omega) h ha
    unfold stepsR countR
    rw [k1]
    simp only [RR.bind]
    cases hcb : countB A bs.length ((a + 8 : Nat) : Int) l.length 57 60 with
    | true => rw [if_pos rfl]; exact ⟨_, _, rfl⟩
    | false =>
      have := (countB_no hl k3 hcb).2.1
      omega
end Go.Proofs.Ytmbbdabcbnemiaa

/-! What is read is put as it stood. -/
namespace Go.Proofs.Ytmbbdabcbnemiaa
open Go.Proofs.Ytmbbdabcbnemiaa.Tw
theorem numBs_of (A : Ar) {l : List UInt8} (hl : l.length = 8) : numBs (A.wrap .i64 (foldN A 0 l)) = l := by
  have e := foldN_nat A l 0 (by rw [hl]; decide) (by omega)
  rw [show ((0 : Nat) : Int) = 0 from rfl] at e
  rw [e, A.ok_wrap]
  match l, hl with
  | [b0, b1, b2, b3, b4, b5, b6, b7], _ =>
    unfold valN numBs numI
    simp only [List.foldl_cons, List.foldl_nil]
    have h0 := b0.toNat_lt; have h1 := b1.toNat_lt; have h2 := b2.toNat_lt; have h3 := b3.toNat_lt
    have h4 := b4.toNat_lt; have h5 := b5.toNat_lt; have h6 := b6.toNat_lt; have h7 := b7.toNat_lt
    obtain ⟨v, hv⟩ : ∃ v, v = (((((((0 * 256 + b0.toNat) * 256 + b1.toNat) * 256 + b2.toNat) * 256 + b3.toNat) * 256 + b4.toNat) * 256 + b5.toNat) * 256 + b6.toNat) * 256 + b7.toNat := ⟨_, rfl⟩
    rw [← hv]
    have hw : IntKind.u64.wrap (IntKind.i64.wrap (v : Int)) = (v : Int) := by
      simp only [IntKind.wrap, IntKind.signed, IntKind.bits, Bool.false_and, Bool.true_and]
      simp
      split <;> omega
    rw [hw]
    have key : ∀ k : Nat, ∀ b : UInt8, v / 2 ^ k % 256 = b.toNat → UInt8.ofNat (IntKind.u8.wrap ((v : Int).fdiv (2 ^ k))).toNat = b := by
      intro k b hb
      have e : (v : Int).fdiv (2 ^ k) = ((v / 2 ^ k : Nat) : Int) := by
        rw [Int.fdiv_eq_ediv_of_nonneg _ (Int.le_of_lt (Int.pow_pos (by decide)))]
        simp
      have hbl := b.toNat_lt
      apply UInt8.toNat.inj
      rw [e, UInt8.toNat_ofNat']
      generalize v / 2 ^ k = w at hb
      simp only [IntKind.wrap, IntKind.signed, IntKind.bits, Bool.false_and]
      simp
      omega
    have hr : List.range 8 = [0, 1, 2, 3, 4, 5, 6, 7] := rfl
    rw [hr]
    simp only [List.map_cons, List.map_nil]
    rw [key _ b0 (by omega), key _ b1 (by omega), key _ b2 (by omega), key _ b3 (by omega), key _ b4 (by omega), key _ b5 (by omega), key _ b6 (by omega), key _ b7 (by omega)]
theorem take_split {bs : List UInt8} {a n : Nat} : bs.drop a = (bs.drop a).take n ++ bs.drop (a + n) := by
  rw [← List.drop_drop]; exact (List.take_append_drop n (bs.drop a)).symm
theorem numR_get {A : Ar} {bs : List UInt8} {a a2 : Nat} {n : Int} (h : numR A bs a = .ok n a2) : bs.drop a = numBs n ++ bs.drop a2 := by
  unfold numR at h
  cases ht : takeR bs a 8 with
  | no e a3 => rw [ht] at h; cases h
  | ok l a3 =>
    rw [ht] at h
    cases h
    have h1 := takeR_ok ht
    rw [numBs_of A h1.1]
    unfold takeR at ht
    rw [if_pos (by omega)] at ht
    cases ht
    exact take_split
theorem countR_get {A : Ar} {bs : List UInt8} {a a2 : Nat} {n size most : Int} (h : countR A bs a size most = .ok n a2) : bs.drop a = numBs n ++ bs.drop a2 := by
  unfold countR at h
  cases hn : numR A bs a with
  | no e a3 => rw [hn] at h; cases h
  | ok m a3 =>
    rw [hn] at h
    simp only [RR.bind] at h
    split at h
    · cases h
    · cases h; exact numR_get hn
theorem textR_get {A : Ar} {bs : List UInt8} (hl : bs.length ≤ 1000000000) {a a2 : Nat} {s : ByteArray} (h : textR A bs a = .ok s a2) : bs.drop a = (numBs s.size ++ s.data.toList) ++ bs.drop a2 := by
  unfold textR at h
  cases hc : countR A bs a 1 bs.length with
  | no e a3 => rw [hc] at h; cases h
  | ok n a3 =>
    rw [hc] at h
    simp only [RR.bind] at h
    have hk := countR_ok hl hc
    cases ht : takeR bs a3 n.toNat with
    | no e a4 => rw [ht] at h; cases h
    | ok l a4 =>
      rw [ht] at h
      cases h
      have h1 := takeR_ok ht
      unfold takeR at ht
      rw [if_pos (by omega)] at ht
      have hs : (ByteArray.mk ⟨l⟩).size = l.length := rfl
      have hn : ((l.length : Nat) : Int) = n := by rw [h1.1]; omega
      rw [countR_get hc, hs, hn, List.append_assoc]
      congr 1
      cases ht
      exact take_split
theorem smallR_get {A : Ar} {bs : List UInt8} {a a2 : Nat} {n : Int} (h : smallR A bs a = .ok n a2) : bs.drop a = [opB n] ++ bs.drop a2 := by
  unfold smallR at h
  cases ht : takeR bs a 1 with
  | no e a3 => rw [ht] at h; cases h
  | ok l a3 =>
    rw [ht] at h
    cases h
    have h1 := takeR_ok ht
    obtain ⟨b, rfl⟩ : ∃ b, l = [b] := by
      match l, h1.1 with
      | [b], _ => exact ⟨b, rfl⟩
    have hb : opB (A.wrap .i8 (([b] : List UInt8).headD 0).toNat) = b := by
      have hbl := b.toNat_lt
      rw [List.headD_cons, A.ok_wrap]
      unfold opB
      apply UInt8.toNat.inj
      rw [UInt8.toNat_ofNat']
      simp only [IntKind.wrap, IntKind.signed, IntKind.bits, Bool.false_and, Bool.true_and]
      simp
      split <;> omega
    rw [hb]
    unfold takeR at ht
    rw [if_pos (by omega)] at ht
    have h2 : (bs.drop a).take 1 = [b] ∧ a + 1 = a2 := by injection ht with h3 h4; exact ⟨h3, h4⟩
    rw [← h2.1, ← h2.2]
    exact take_split
theorem nodeR_get {A : Ar} {bs : List UInt8} (hl : bs.length ≤ 1000000000) : ∀ (f c a : Nat) (t : Tree) (c2 a2 : Nat), nodeR A bs f c a = .ok t c2 a2 → bs.drop a = nodeBs t ++ bs.drop a2 := by
  intro f
  induction f with
  | zero => intro c a t c2 a2 h; cases h
  | succ f ih =>
    intro c a t c2 a2 h
    have hK : ∀ (n c a : Nat) (ks : List Tree) (c2 a2 : Nat), listR (nodeR A bs f) n c a = .ok ks c2 a2 → bs.drop a = nodesBs ks ++ bs.drop a2 ∧ ks.length = n := by
      intro n
      induction n with
      | zero => intro c a ks c2 a2 h; cases h; exact ⟨rfl, rfl⟩
      | succ n ihn =>
        intro c a ks c2 a2 h
        rw [listR] at h
        cases ho : nodeR A bs f c a with
        | no e c3 a3 => rw [ho] at h; cases h
        | ok x c3 a3 =>
        rw [ho] at h
        simp only [RN.bind] at h
        cases hq : listR (nodeR A bs f) n c3 a3 with
        | no e c4 a4 => rw [hq] at h; cases h
        | ok ys c4 a4 =>
        rw [hq] at h
        cases h
        obtain ⟨e1, e2⟩ := ihn _ _ _ _ _ hq
        exact ⟨by rw [ih _ _ _ _ _ ho, e1, nodesBs, List.append_assoc], by rw [List.length_cons, e2]⟩
    rw [nodeR] at h
    split at h
    · cases h
    cases h1 : numR A bs a with
    | no e a3 => rw [h1] at h; cases h
    | ok i a3 =>
    rw [h1] at h
    simp only [RR.toN, RN.bind] at h
    cases h2 : numR A bs a3 with
    | no e a4 => rw [h2] at h; cases h
    | ok k a4 =>
    rw [h2] at h
    simp only [RN.bind] at h
    cases h3 : textR A bs a4 with
    | no e a5 => rw [h3] at h; cases h
    | ok s a5 =>
    rw [h3] at h
    simp only [RN.bind] at h
    cases h4 : countR A bs a5 32 bs.length with
    | no e a6 => rw [h4] at h; cases h
    | ok n a6 =>
    rw [h4] at h
    simp only [RN.bind] at h
    cases h5 : listR (nodeR A bs f) n.toNat (c + 1) a6 with
    | no e c7 a7 => rw [h5] at h; cases h
    | ok ks c7 a7 =>
    rw [h5] at h
    cases h
    obtain ⟨e1, e2⟩ := hK _ _ _ _ _ _ h5
    have hk := countR_ok hl h4
    have hn : ((ks.length : Nat) : Int) = n := by omega
    rw [numR_get h1, numR_get h2, textR_get hl h3, countR_get h4, e1, nodeBs, hn]
    simp only [List.append_assoc]
theorem stepR_get {A : Ar} {bs : List UInt8} (hl : bs.length ≤ 1000000000) {a a2 : Nat} {x : Stp} (h : stepR A bs a = .ok x a2) : bs.drop a = stepBs x ++ bs.drop a2 := by
  unfold stepR at h
  cases h0 : smallR A bs a with
  | no e a3 => rw [h0] at h; cases h
  | ok op b0 =>
  rw [h0] at h
  simp only [RR.bind] at h
  cases h1 : numR A bs b0 with
  | no e a3 => rw [h1] at h; cases h
  | ok id b1 =>
  rw [h1] at h
  simp only at h
  cases h2 : numR A bs b1 with
  | no e a3 => rw [h2] at h; cases h
  | ok par b2 =>
  rw [h2] at h
  simp only at h
  cases h3 : numR A bs b2 with
  | no e a3 => rw [h3] at h; cases h
  | ok pl b3 =>
  rw [h3] at h
  simp only at h
  cases h4 : textR A bs b3 with
  | no e a3 => rw [h4] at h; cases h
  | ok s b4 =>
  rw [h4] at h
  simp only at h
  cases h5 : nodeR A bs 40 0 b4 with
  | no e c a3 => rw [nodeTR, h5] at h; cases h
  | ok t c b5 =>
  rw [nodeTR, h5] at h
  cases h
  rw [smallR_get h0, numR_get h1, numR_get h2, numR_get h3, textR_get hl h4, nodeR_get hl _ _ _ _ _ _ h5, stepBs]
  simp only [List.append_assoc]
theorem listS_get {A : Ar} {bs : List UInt8} (hl : bs.length ≤ 1000000000) : ∀ (n c a : Nat) (ks : List Stp) (c2 a2 : Nat), listR (oneS A bs) n c a = .ok ks c2 a2 → bs.drop a = stepsBs ks ++ bs.drop a2 ∧ ks.length = n
  | 0, c, a, ks, c2, a2, h => by cases h; exact ⟨rfl, rfl⟩
  | n + 1, c, a, ks, c2, a2, h => by
    rw [listR] at h
    cases ho : oneS A bs c a with
    | no e c3 a3 => rw [ho] at h; cases h
    | ok x c3 a3 =>
    rw [ho] at h
    simp only [RN.bind] at h
    cases hq : listR (oneS A bs) n c3 a3 with
    | no e c4 a4 => rw [hq] at h; cases h
    | ok ys c4 a4 =>
    rw [hq] at h
    cases h
    obtain ⟨e1, e2⟩ := listS_get hl _ _ _ _ _ _ hq
    have hs : stepR A bs a = .ok x a3 := by
      unfold oneS at ho
      cases hs : stepR A bs a with
      | no e a3 => rw [hs] at ho; cases ho
      | ok y a3 => rw [hs] at ho; cases ho; rfl
    exact ⟨by rw [stepR_get hl hs, e1, stepsBs, List.append_assoc], by rw [List.length_cons, e2]⟩
theorem stepsR_get {A : Ar} {bs : List UInt8} (hl : bs.length ≤ 1000000000) {a a2 : Nat} {l : List Stp} (h : stepsR A bs a = .ok l a2) : bs.drop a = (numBs l.length ++ stepsBs l) ++ bs.drop a2 := by
  unfold stepsR at h
  cases hc : countR A bs a 57 60 with
  | no e a3 => rw [hc] at h; cases h
  | ok n a3 =>
  rw [hc] at h
  simp only [RR.bind] at h
  have hk := countR_ok hl hc
  cases hr : listR (oneS A bs) n.toNat 0 a3 with
  | no e c a4 => rw [hr] at h; cases h
  | ok xs c a4 =>
    rw [hr] at h; cases h
    obtain ⟨e1, e2⟩ := listS_get hl _ _ _ _ _ _ hr
    have hn : ((l.length : Nat) : Int) = n := by omega
    rw [countR_get hc, e1, hn, List.append_assoc]
end Go.Proofs.Ytmbbdabcbnemiaa

/-! CodePuts, walked whole. -/
namespace Go.Proofs.Ytmbbdabcbnemiaa
open Go.Proofs.Ytmbbdabcbnemiaa.Tw
theorem TW.vsE {P : Program} {r : Option Nat} {K : Nat} {c : Code} {Q : AEx → AFr → Store → Prop} {fr : AFr} {L : Store} (l' : List (Nat × AV)) (L' : Store) (n : Nat) (hn : fr.n = n) (h : eVS false K (autoπ K fr L l' L') fr L l' L' (TW P r K c Q ⟨n, l'⟩ L')) : TW P r K c Q fr L := by
  obtain ⟨h1, h2⟩ := eVS_ok h
  subst hn
  exact ⟨Tw.vs h1 h2.h⟩
set_option maxHeartbeats 4000000 in
theorem lawPuts (A : Ar) (E : Em) (B : EmB) (F : EmS) {P : Program} (hP : P = Try.prog) (bs : List UInt8) (n : Int) (s : ByteArray) (t : Tree) (hok : t.ok) (l : List Stp) (hokl : ∀ x ∈ l, x.sub.ok) : TPure P 3 [.sl 1 (B.l.l bs), .int .i64 n, .str s, E.tree.v t, .sl 9 (F.l.l l)] (.bool true) := by
  have h9 := wakes9 A B hP
  have h7 := Great7 A E hP t hok
  have h8 := GreatSteps8 A E F hP l hokl
  have hll := B.l.len bs
  have hlk : A.len (B.l.l bs) = (bs.length : Int) := by rw [A.ok_len, hll]
  obtain ⟨g3, hg3⟩ : ∃ g, g = great3 t := ⟨_, rfl⟩
  obtain ⟨gs, hgs⟩ : ∃ g, g = greatS l := ⟨_, rfl⟩
  rw [← hg3] at h7
  rw [← hgs] at h8
  have hN := fun (hb : bs.length ≤ 1000) => Number10 A B hP bs (by omega) n _ rfl
  have hNr := fun (hb : bs.length ≤ 1000) => Number11 A B hP bs (by omega) n _ rfl
  have hT := fun (hb : bs.length ≤ 1000) (hs : s.size ≤ 1000) => Text12 A B hP bs (by omega) s (by omega) _ rfl
  have hTr := fun (hb : bs.length ≤ 1000) (hs : s.size ≤ 1000) => Text13 A B hP bs (by omega) s (by omega) _ rfl
  have hlen : bs.length ≤ 1000 → g3 = false → (bs ++ nodeBs t).length ≤ 100000 := fun hb h => by
    have := great3_len (by rw [← hg3, h])
    rw [List.length_append]; omega
  have hlenS : bs.length ≤ 1000 → gs = false → (bs ++ (numBs l.length ++ stepsBs l)).length ≤ 3000000 := fun hb h => by
    have := (greatS_len (by rw [← hgs, h])).2
    rw [List.length_append, List.length_append, numBs_len]; omega
  have hD := fun (hb : bs.length ≤ 1000) (h : g3 = false) => Node14 A E B hP bs (by omega) t _ rfl (by have := hlen hb h; omega)
  have hDr := fun (hb : bs.length ≤ 1000) (h : g3 = false) => Node15 A E B hP _ t (Nat.le_refl _) bs _ rfl (by have := hlen hb h; omega)
  have hS := fun (hb : bs.length ≤ 1000) (h : gs = false) => Steps16 A E B F hP l bs _ rfl (by have := hlenS hb h; omega)
  have hSr := fun (hb : bs.length ≤ 1000) (h : gs = false) => Steps17 A E B F hP l bs _ rfl (by have := hlenS hb h; omega)
  generalize bs ++ numBs n = rN at hN hNr
  generalize bs ++ (numBs s.size ++ s.data.toList) = rT at hT hTr
  generalize bs ++ nodeBs t = rD at hD hDr
  generalize bs ++ (numBs l.length ++ stepsBs l) = rS at hS hSr
  clear hlen hlenS hg3 hgs hok hokl
  obtain ⟨i, k, st, ks⟩ := t
  rw [E.node] at h7 ⊢
  refine TPure.ofE A T0 (T0_ok hP) (hP ▸ Try.func3) rfl _ rfl (by simp) ?_
  cbv
  refine EW.vs [(10, .bool false), (8, .imm [.int .i64 i, .int .i64 k, .str st, .sl 4 (E.tree.l ks)]), (0, .sl 1 (B.l.l bs)), (1, .int .i64 n), (2, .str s), (4, .sl 9 (F.l.l l))] [] 88 rfl ?_
  cbv
  (repeat (first | exact trivial | refine And.intro (Emb.Pur _ _) ?_ | refine And.intro rfl ?_ | refine And.intro (Pur.mk (by (repeat (first | exact rfl | exact Emb.purL _ _ | assumption | apply pur_cons | apply pur_sl | apply pur_slt | apply pur_agg | apply pur_tup)))) ?_))
  refine bsplit (fun h1 => ?_) (fun h1 => ?_)
  · skip
    cbv
    ((try cbv) <;> (repeat ((with_reducible refine EW.of ?_); cbv)))
    (refine ⟨Ent.of (hP ▸ Try.func9) rfl, ?_⟩; refine TC.pureE h9 ?_; cbv; (repeat (first | exact trivial | refine And.intro (Emb.Pur _ _) ?_ | refine And.intro rfl ?_ | refine And.intro (Pur.mk rfl) ?_ | refine And.intro (Pur.mk (by assumption)) ?_)); ((try cbv) <;> (repeat ((with_reducible refine EW.of ?_); cbv))))
  have h1 : bs.length ≤ 1000 := lt_nf (i := 1000) h1 rfl hlk
  cbv
  refine bsplit (fun h2 => ?_) (fun h2 => ?_)
  · skip
    cbv
    ((try cbv) <;> (repeat ((with_reducible refine EW.of ?_); cbv)))
    (refine ⟨Ent.of (hP ▸ Try.func9) rfl, ?_⟩; refine TC.pureE h9 ?_; cbv; (repeat (first | exact trivial | refine And.intro (Emb.Pur _ _) ?_ | refine And.intro rfl ?_ | refine And.intro (Pur.mk rfl) ?_ | refine And.intro (Pur.mk (by assumption)) ?_)); ((try cbv) <;> (repeat ((with_reducible refine EW.of ?_); cbv))))
  have h2 : s.size ≤ 1000 := lt_nf (i := 1000) h2 rfl (A.ok_slen s)
  cbv
  (refine ⟨Ent.of (hP ▸ Try.func7) rfl, ?_⟩; refine TC.pureE h7 ?_; cbv; (repeat (first | exact trivial | refine And.intro (Emb.Pur _ _) ?_ | refine And.intro rfl ?_ | refine And.intro (Pur.mk rfl) ?_ | refine And.intro (Pur.mk (by assumption)) ?_)); ((try cbv) <;> (repeat ((with_reducible refine EW.of ?_); cbv))))
  cases g3 with
  | true =>
    cbv
    ((try cbv) <;> (repeat ((with_reducible refine EW.of ?_); cbv)))
    (refine ⟨Ent.of (hP ▸ Try.func9) rfl, ?_⟩; refine TC.pureE h9 ?_; cbv; (repeat (first | exact trivial | refine And.intro (Emb.Pur _ _) ?_ | refine And.intro rfl ?_ | refine And.intro (Pur.mk rfl) ?_ | refine And.intro (Pur.mk (by assumption)) ?_)); ((try cbv) <;> (repeat ((with_reducible refine EW.of ?_); cbv))))
  | false =>
  cbv
  (refine ⟨Ent.of (hP ▸ Try.func8) rfl, ?_⟩; refine TC.pureE h8 ?_; cbv; (repeat (first | exact trivial | refine And.intro (Emb.Pur _ _) ?_ | refine And.intro rfl ?_ | refine And.intro (Pur.mk rfl) ?_ | refine And.intro (Pur.mk (by assumption)) ?_)); ((try cbv) <;> (repeat ((with_reducible refine EW.of ?_); cbv))))
  cases gs with
  | true =>
    cbv
    ((try cbv) <;> (repeat ((with_reducible refine EW.of ?_); cbv)))
    (refine ⟨Ent.of (hP ▸ Try.func9) rfl, ?_⟩; refine TC.pureE h9 ?_; cbv; (repeat (first | exact trivial | refine And.intro (Emb.Pur _ _) ?_ | refine And.intro rfl ?_ | refine And.intro (Pur.mk rfl) ?_ | refine And.intro (Pur.mk (by assumption)) ?_)); ((try cbv) <;> (repeat ((with_reducible refine EW.of ?_); cbv))))
  | false =>
  cbv
  ((try cbv) <;> (repeat ((with_reducible refine EW.of ?_); cbv)))
  have hN := hN h1
  have hNr := hNr h1
  have hT := hT h1 h2
  have hTr := hTr h1 h2
  have hD := hD h1 rfl
  have hDr := hDr h1 rfl
  have hS := hS h1 rfl
  have hSr := hSr h1 rfl
  rw [E.node] at hD hDr
  obtain ⟨k0, hk0⟩ : ∃ k, k = bs.length := ⟨_, rfl⟩
  have hsc := B.scal bs
  refine msplit (fun he => ?_) (fun a al he => ?_)
  · cbv
    ((try cbv) <;> (repeat ((with_reducible refine EW.of ?_); cbv)))
    refine TW.vsE [(11, .sl 1 (B.l.l bs)), (10, .bool false), (8, .imm [.int .i64 i, .int .i64 k, .str st, .sl 4 (E.tree.l ks)]), (0, .sl 1 (B.l.l bs)), (1, .int .i64 n), (2, .str s), (4, .sl 9 (F.l.l l))] [] 88 rfl ?_
    cbv
    refine And.intro (by first | exact he.symm | exact B.l.cut hk0) (And.intro (B.l.Pur _) (And.intro (E.tree.Pur _) (And.intro (B.l.Pur _) (And.intro (F.l.Pur _) ?_))))
    (refine TW.draw (A := A) (T0_ok hP) (hP ▸ follows_mixed) (by kernel_rfl) rfl ?_; cbv)
    (refine ⟨Ent.of (hP ▸ Try.func10) rfl, ?_⟩; refine ⟨_, TC.pureX hN (by cbv; (repeat (first | exact trivial | refine And.intro (Emb.Pur _ _) ?_ | refine And.intro rfl ?_ | refine And.intro (Pur.mk rfl) ?_ | refine And.intro (Pur.mk (by assumption)) ?_))), ?_⟩; cbv)
    refine ⟨rN, B.bytes rN, ?_⟩
    cbv
    (refine ⟨Ent.of (hP ▸ Try.func11) rfl, ?_⟩; refine ⟨_, TC.pureX hNr (by cbv; (repeat (first | exact trivial | refine And.intro (Emb.Pur _ _) ?_ | refine And.intro rfl ?_ | refine And.intro (Pur.mk rfl) ?_ | refine And.intro (Pur.mk (by assumption)) ?_))), ?_⟩; cbv)
    refine ⟨rN, B.bytes rN, ?_⟩
    cbv
    refine byes (seq_self A _) ?_
    cbv
    (refine ⟨Ent.of (hP ▸ Try.func12) rfl, ?_⟩; refine ⟨_, TC.pureX hT (by cbv; (repeat (first | exact trivial | refine And.intro (Emb.Pur _ _) ?_ | refine And.intro rfl ?_ | refine And.intro (Pur.mk rfl) ?_ | refine And.intro (Pur.mk (by assumption)) ?_))), ?_⟩; cbv)
    refine ⟨rT, B.bytes rT, ?_⟩
    cbv
    (refine ⟨Ent.of (hP ▸ Try.func13) rfl, ?_⟩; refine ⟨_, TC.pureX hTr (by cbv; (repeat (first | exact trivial | refine And.intro (Emb.Pur _ _) ?_ | refine And.intro rfl ?_ | refine And.intro (Pur.mk rfl) ?_ | refine And.intro (Pur.mk (by assumption)) ?_))), ?_⟩; cbv)
    refine ⟨rT, B.bytes rT, ?_⟩
    cbv
    ((try cbv) <;> (repeat ((with_reducible refine EW.of ?_); cbv)))
    (refine TW.draw (A := A) (T0_ok hP) (hP ▸ follows_mixed) (by kernel_rfl) rfl ?_; cbv)
    (refine ⟨Ent.of (hP ▸ Try.func14) rfl, ?_⟩; refine ⟨_, TC.pureX hD (by cbv; (repeat (first | exact trivial | refine And.intro (Emb.Pur _ _) ?_ | refine And.intro rfl ?_ | refine And.intro (Pur.mk rfl) ?_ | refine And.intro (Pur.mk (by assumption)) ?_))), ?_⟩; cbv)
    refine ⟨rD, B.bytes rD, ?_⟩
    cbv
    (refine ⟨Ent.of (hP ▸ Try.func15) rfl, ?_⟩; refine ⟨_, TC.pureX hDr (by cbv; (repeat (first | exact trivial | refine And.intro (Emb.Pur _ _) ?_ | refine And.intro rfl ?_ | refine And.intro (Pur.mk rfl) ?_ | refine And.intro (Pur.mk (by assumption)) ?_))), ?_⟩; cbv)
    refine ⟨rD, B.bytes rD, ?_⟩
    cbv
    refine byes (seq_self A _) ?_
    cbv
    (refine ⟨Ent.of (hP ▸ Try.func16) rfl, ?_⟩; refine ⟨_, TC.pureX hS (by cbv; (repeat (first | exact trivial | refine And.intro (Emb.Pur _ _) ?_ | refine And.intro rfl ?_ | refine And.intro (Pur.mk rfl) ?_ | refine And.intro (Pur.mk (by assumption)) ?_))), ?_⟩; cbv)
    refine ⟨rS, B.bytes rS, ?_⟩
    cbv
    (refine ⟨Ent.of (hP ▸ Try.func17) rfl, ?_⟩; refine ⟨_, TC.pureX hSr (by cbv; (repeat (first | exact trivial | refine And.intro (Emb.Pur _ _) ?_ | refine And.intro rfl ?_ | refine And.intro (Pur.mk rfl) ?_ | refine And.intro (Pur.mk (by assumption)) ?_))), ?_⟩; cbv)
    refine ⟨rS, B.bytes rS, ?_⟩
    cbv
    ((try cbv) <;> (repeat ((with_reducible refine EW.of ?_); cbv)))
    refine byes (seq_self A _) ?_
    cbv
    refine byes (seq_self A _) ?_
    cbv
    refine ⟨bs, B.bytes bs, ?_⟩
    cbv
    refine ⟨bs, B.bytes bs, ?_⟩
    cbv
    refine byes (seq_self A _) ?_
    cbv
    (refine ⟨Ent.of (hP ▸ Try.func9) rfl, ?_⟩; refine TC.pureE h9 ?_; cbv; (repeat (first | exact trivial | refine And.intro (Emb.Pur _ _) ?_ | refine And.intro rfl ?_ | refine And.intro (Pur.mk rfl) ?_ | refine And.intro (Pur.mk (by assumption)) ?_)); ((try cbv) <;> (repeat ((with_reducible refine EW.of ?_); cbv))))
  · have he2 : a :: al = B.l.l bs := he.symm
    refine ⟨⟨by rw [he2]; exact hsc.h⟩, 0, rfl, k0, B.l.l bs, by rw [he2, hll, Nat.zero_add, hk0], by rw [he2]; rfl, Nat.zero_le _, by show k0 * 1 ≤ _; omega, by omega, ?_⟩
    cbv
    ((try cbv) <;> (repeat ((with_reducible refine EW.of ?_); cbv)))
    refine TW.vsE [(11, .sl 1 (B.l.l bs)), (10, .bool false), (8, .imm [.int .i64 i, .int .i64 k, .str st, .sl 4 (E.tree.l ks)]), (0, .sl 1 (B.l.l bs)), (1, .int .i64 n), (2, .str s), (4, .sl 9 (F.l.l l))] [] 88 rfl ?_
    cbv
    refine And.intro (by first | exact he.symm | exact B.l.cut hk0) (And.intro (B.l.Pur _) (And.intro (E.tree.Pur _) (And.intro (B.l.Pur _) (And.intro (F.l.Pur _) ?_))))
    (refine TW.draw (A := A) (T0_ok hP) (hP ▸ follows_mixed) (by kernel_rfl) rfl ?_; cbv)
    (refine ⟨Ent.of (hP ▸ Try.func10) rfl, ?_⟩; refine ⟨_, TC.pureX hN (by cbv; (repeat (first | exact trivial | refine And.intro (Emb.Pur _ _) ?_ | refine And.intro rfl ?_ | refine And.intro (Pur.mk rfl) ?_ | refine And.intro (Pur.mk (by assumption)) ?_))), ?_⟩; cbv)
    refine ⟨rN, B.bytes rN, ?_⟩
    cbv
    (refine ⟨Ent.of (hP ▸ Try.func11) rfl, ?_⟩; refine ⟨_, TC.pureX hNr (by cbv; (repeat (first | exact trivial | refine And.intro (Emb.Pur _ _) ?_ | refine And.intro rfl ?_ | refine And.intro (Pur.mk rfl) ?_ | refine And.intro (Pur.mk (by assumption)) ?_))), ?_⟩; cbv)
    refine ⟨rN, B.bytes rN, ?_⟩
    cbv
    refine byes (seq_self A _) ?_
    cbv
    (refine ⟨Ent.of (hP ▸ Try.func12) rfl, ?_⟩; refine ⟨_, TC.pureX hT (by cbv; (repeat (first | exact trivial | refine And.intro (Emb.Pur _ _) ?_ | refine And.intro rfl ?_ | refine And.intro (Pur.mk rfl) ?_ | refine And.intro (Pur.mk (by assumption)) ?_))), ?_⟩; cbv)
    refine ⟨rT, B.bytes rT, ?_⟩
    cbv
    (refine ⟨Ent.of (hP ▸ Try.func13) rfl, ?_⟩; refine ⟨_, TC.pureX hTr (by cbv; (repeat (first | exact trivial | refine And.intro (Emb.Pur _ _) ?_ | refine And.intro rfl ?_ | refine And.intro (Pur.mk rfl) ?_ | refine And.intro (Pur.mk (by assumption)) ?_))), ?_⟩; cbv)
    refine ⟨rT, B.bytes rT, ?_⟩
    cbv
    ((try cbv) <;> (repeat ((with_reducible refine EW.of ?_); cbv)))
    (refine TW.draw (A := A) (T0_ok hP) (hP ▸ follows_mixed) (by kernel_rfl) rfl ?_; cbv)
    (refine ⟨Ent.of (hP ▸ Try.func14) rfl, ?_⟩; refine ⟨_, TC.pureX hD (by cbv; (repeat (first | exact trivial | refine And.intro (Emb.Pur _ _) ?_ | refine And.intro rfl ?_ | refine And.intro (Pur.mk rfl) ?_ | refine And.intro (Pur.mk (by assumption)) ?_))), ?_⟩; cbv)
    refine ⟨rD, B.bytes rD, ?_⟩
    cbv
    (refine ⟨Ent.of (hP ▸ Try.func15) rfl, ?_⟩; refine ⟨_, TC.pureX hDr (by cbv; (repeat (first | exact trivial | refine And.intro (Emb.Pur _ _) ?_ | refine And.intro rfl ?_ | refine And.intro (Pur.mk rfl) ?_ | refine And.intro (Pur.mk (by assumption)) ?_))), ?_⟩; cbv)
    refine ⟨rD, B.bytes rD, ?_⟩
    cbv
    refine byes (seq_self A _) ?_
    cbv
    (refine ⟨Ent.of (hP ▸ Try.func16) rfl, ?_⟩; refine ⟨_, TC.pureX hS (by cbv; (repeat (first | exact trivial | refine And.intro (Emb.Pur _ _) ?_ | refine And.intro rfl ?_ | refine And.intro (Pur.mk rfl) ?_ | refine And.intro (Pur.mk (by assumption)) ?_))), ?_⟩; cbv)
    refine ⟨rS, B.bytes rS, ?_⟩
    cbv
    (refine ⟨Ent.of (hP ▸ Try.func17) rfl, ?_⟩; refine ⟨_, TC.pureX hSr (by cbv; (repeat (first | exact trivial | refine And.intro (Emb.Pur _ _) ?_ | refine And.intro rfl ?_ | refine And.intro (Pur.mk rfl) ?_ | refine And.intro (Pur.mk (by assumption)) ?_))), ?_⟩; cbv)
    refine ⟨rS, B.bytes rS, ?_⟩
    cbv
    ((try cbv) <;> (repeat ((with_reducible refine EW.of ?_); cbv)))
    refine byes (seq_self A _) ?_
    cbv
    refine byes (seq_self A _) ?_
    cbv
    refine ⟨bs, B.bytes bs, ?_⟩
    cbv
    refine ⟨bs, B.bytes bs, ?_⟩
    cbv
    refine byes (seq_self A _) ?_
    cbv
    (refine ⟨Ent.of (hP ▸ Try.func9) rfl, ?_⟩; refine TC.pureE h9 ?_; cbv; (repeat (first | exact trivial | refine And.intro (Emb.Pur _ _) ?_ | refine And.intro rfl ?_ | refine And.intro (Pur.mk rfl) ?_ | refine And.intro (Pur.mk (by assumption)) ?_)); ((try cbv) <;> (repeat ((with_reducible refine EW.of ?_); cbv))))
end Go.Proofs.Ytmbbdabcbnemiaa

/-! CodeBack, walked whole. -/
namespace Go.Proofs.Ytmbbdabcbnemiaa
open Go.Proofs.Ytmbbdabcbnemiaa.Tw
def rows0 (t : Tree) (l : List Stp) : List Stp := ⟨0, 0, 0, 0, ⟨#[]⟩, t⟩ :: l
/-- What a step's tree must be to be read again. -/
def smallT (t : Tree) : Prop := okD (fullT t 1) ∧ (fullT t 1).length ≤ 200
/-- What was put is read as it was, or is too much. -/
theorem back_law (A : Ar) {bs : List UInt8} (hl : bs.length ≤ 1000000000) {n : Int} (hn : -9223372036854775808 ≤ n ∧ n ≤ 9223372036854775807) {s : ByteArray} {t : Tree} {l : List Stp} (ht : t.nums) (hx : ∀ x ∈ l, x.nums)
    (h : bs = numBs n ++ ((numBs s.size ++ s.data.toList) ++ (nodeBs t ++ (numBs l.length ++ stepsBs l)))) :
    ∃ u a2 x a3 b3 k a4 b4 ex e, askR 0 bs 0 (-1) (numR A bs 0) = (n, 8, -1) ∧ askR ⟨#[]⟩ bs 8 (-1) (textR A bs 8) = (u, a2, -1) ∧ a2 ≤ bs.length ∧ askR tree0 bs a2 (-1) (nodeTR A bs a2) = (x, a3, b3) ∧ askR [] bs a3 b3 (stepsR A bs a3) = (k, a4, b4) ∧ a3 ≤ bs.length ∧ endR bs a4 b4 = (ex, e) ∧ u = s ∧
      ((x = t ∧ k = l ∧ e = 0) ∨ (e = 30 ∧ ¬ (l.length ≤ 60 ∧ smallT t ∧ ∀ y ∈ l, smallT y.sub))) := by
  have h0 : bs.drop 0 = numBs n ++ ((numBs s.size ++ s.data.toList) ++ (nodeBs t ++ (numBs l.length ++ stepsBs l))) := h
  obtain ⟨k1, d1, e1⟩ := numR_put A hn.1 hn.2 h0 (Nat.zero_le _)
  obtain ⟨k2, d2, e2⟩ := textR_put A hl d1 e1
  rw [Nat.zero_add] at k1 k2 d2 e2
  have hm : ¬ (0 : Int) ≤ -1 := by decide
  obtain ⟨a2, ha2⟩ : ∃ a, a = 8 + (8 + s.size) := ⟨_, rfl⟩
  rw [← ha2] at k2 d2 e2
  rcases nodeTR_put A hl ht e2 d2 with h3 | ⟨⟨e, a3, h3⟩, hno⟩
  · obtain ⟨d3, e3⟩ := drop_app d2 e2
    obtain ⟨a3, ha3⟩ : ∃ a, a = a2 + (nodeBs t).length := ⟨_, rfl⟩
    rw [← ha3] at h3 d3 e3
    have d3' : bs.drop a3 = (numBs l.length ++ stepsBs l) ++ [] := by rw [d3, List.append_nil]
    rcases stepsR_put A hl hx e3 d3' with h4 | ⟨⟨e, a4, h4⟩, hno⟩
    · obtain ⟨d4, e4⟩ := drop_app d3' e3
      have h5 : a3 + (numBs l.length ++ stepsBs l).length = bs.length := by
        have := congrArg List.length d4
        rw [List.length_drop, List.length_nil] at this
        omega
      refine ⟨s, a2, t, a3, -1, l, _, -1, 0, 0, askR_ok hm k1, askR_ok hm k2, e2, askR_ok hm h3, askR_ok hm h4, e3, ?_, rfl, .inl ⟨rfl, rfl, rfl⟩⟩
      unfold endR
      rw [if_neg (by decide), if_neg (by omega)]
    · have he : 0 ≤ e := (by
        have := (stepsF_R (A := A) (c := 0) hl e3 (b := -1)).1
        rw [askR_no hm h4] at this
        unfold stepsR at h4
        cases hc : countR A bs a3 57 60 with
        | no e5 a5 =>
          rw [hc] at h4; cases h4
          rcases countR_no hc with h | h <;> omega
        | ok n5 a5 =>
          rw [hc] at h4
          simp only [RR.bind] at h4
          have hp := (countR_ok hl hc).2.1
          cases hr : listR (oneS A bs) n5.toNat 0 a5 with
          | no e6 c6 a6 =>
            rw [hr] at h4; cases h4
            exact ((listS_R (A := A) hl n5.toNat 0 0 a5 (-1) (by decide) hp).2.2 _ _ _ hr).1
          | ok xs c6 a6 => rw [hr] at h4; cases h4)
      refine ⟨s, a2, t, a3, -1, [], a4, e, e, 30, askR_ok hm k1, askR_ok hm k2, e2, askR_ok hm h3, askR_no hm h4, e3, ?_, rfl, .inr ⟨rfl, fun hh => hno ⟨hh.1, fun x hx => hh.2.2 x hx⟩⟩⟩
      unfold endR
      rw [if_pos he]
  · have he : 0 ≤ e := nodeTR_no hl e2 h3
    have hp := askT2_pos hl e2 (askR_no (z := tree0) hm h3)
    refine ⟨s, a2, tree0, a3, e, [], a3, e, e, 30, askR_ok hm k1, askR_ok hm k2, e2, askR_no hm h3, askR_pos he, hp, ?_, rfl, .inr ⟨rfl, fun hh => hno hh.2.1⟩⟩
    unfold endR
    rw [if_pos he]
/-- What is read whole is put as it stood. -/
theorem fore_law (A : Ar) {bs : List UInt8} (hl : bs.length ≤ 1000000000) : ∃ z a b x e, askR [] bs 0 (-1) (stepsR A bs 0) = (z, a, b) ∧ endR bs a b = (x, e) ∧ (e = 0 → bs = numBs z.length ++ stepsBs z) ∧ z.length ≤ 60 := by
  have hm : ¬ (0 : Int) ≤ -1 := by decide
  obtain ⟨z, a, b, hz⟩ : ∃ z a b, askR [] bs 0 (-1) (stepsR A bs 0) = (z, a, b) := ⟨_, _, _, rfl⟩
  obtain ⟨x, e, he⟩ : ∃ x e, endR bs a b = (x, e) := ⟨_, _, rfl⟩
  refine ⟨z, a, b, x, e, hz, he, fun h0 => ?_, (askSt_tok hl hz).1⟩
  unfold endR at he
  subst h0
  split at he
  · cases he
  rename_i hb
  split at he
  · cases he
  rename_i ha
  have hp := askSt_pos hl (Nat.zero_le _) hz
  rw [askR_neg hm] at hz
  cases hs : stepsR A bs 0 with
  | no e2 a2 =>
    rw [hs] at hz
    have h1 := (stepsF_R (A := A) (c := 0) hl (Nat.zero_le bs.length) (b := -1)).1
    cases hz
    exfalso
    unfold stepsR at hs
    cases hc : countR A bs 0 57 60 with
    | no e5 a5 =>
      rw [hc] at hs; cases hs
      rcases countR_no hc with h | h <;> omega
    | ok n5 a5 =>
      rw [hc] at hs
      simp only [RR.bind] at hs
      have hp := (countR_ok hl hc).2.1
      cases hr : listR (oneS A bs) n5.toNat 0 a5 with
      | no e6 c6 a6 =>
        rw [hr] at hs; cases hs
        have := ((listS_R (A := A) hl n5.toNat 0 0 a5 (-1) (by decide) hp).2.2 _ _ _ hr).1
        omega
      | ok xs c6 a6 => rw [hr] at hs; cases hs
  | ok l a2 =>
    rw [hs] at hz
    cases hz
    have := stepsR_get hl hs
    rw [List.drop_zero, List.drop_of_length_le (by omega), List.append_nil] at this
    exact this
end Go.Proofs.Ytmbbdabcbnemiaa

/-! CodeBack, walked whole. -/
namespace Go.Proofs.Ytmbbdabcbnemiaa
open Go.Proofs.Ytmbbdabcbnemiaa.Tw
theorem smallT_of {t : Tree} (hg : great3 t = false) (h : ∀ (j : Nat) (x : Tree × Nat), (walkT 251 t [] 1)[j]? = some x → x.2 ≤ 40 ∧ j < 200) : smallT t := by
  simp only [great3, Bool.or_eq_false_iff, decide_eq_false_iff_not] at hg
  have hf := walkT_full 251 t [] 1 (by omega)
  rw [List.nil_append] at hf
  rw [hf] at h
  refine ⟨fun x hx => ?_, ?_⟩
  · obtain ⟨j, hj⟩ := List.mem_iff_getElem?.1 hx
    exact (h j x hj).1
  · refine Nat.le_of_not_lt fun hc => ?_
    have := (h 200 _ (List.getElem?_eq_getElem hc)).2
    omega
theorem overS_great : ∀ {l : List Stp} {c n : Nat}, overS c n l = false → ∀ x ∈ l, great3 x.sub = false
  | [], c, n, h, x, hx => by cases hx
  | y :: l, c, n, h, x, hx => by
    simp only [overS, Bool.or_eq_false_iff, decide_eq_false_iff_not] at h
    rcases List.mem_cons.1 hx with rfl | hx
    · exact h.1.1
    · exact overS_great h.2.2 x hx
theorem EmS.scal (F : EmS) (l : List Stp) : Scal (F.l.l l) := ⟨by
  rw [F.l.ok, F.ok]
  unfold escal
  rw [List.all_map]
  refine List.all_eq_true.2 fun x _ => ?_
  obtain ⟨op, id, par, pl, s, ⟨i, k, s2, ks⟩⟩ := x
  rfl⟩
set_option maxHeartbeats 16000000 in
theorem lawBack (A : Ar) (E : Em) (B : EmB) (F : EmS) {P : Program} (hP : P = Try.prog) (n : Int) (hn : -9223372036854775808 ≤ n ∧ n ≤ 9223372036854775807) (s : ByteArray) (t : Tree) (hok : t.ok) (hnt : t.nums) (l : List Stp) (hokl : ∀ x ∈ l, x.sub.ok) (hnl : ∀ x ∈ l, x.nums) (cs : List UInt8) : TPure P 6 [.int .i64 n, .str s, E.tree.v t, .sl 9 (F.l.l l), .sl 1 (B.l.l cs)] (.bool true) := by
  have h9 := wakes9 A B hP
  have h7 := Great7 A E hP t hok
  have h8 := GreatSteps8 A E F hP l hokl
  have hll := B.l.len cs
  have hlk : A.len (B.l.l cs) = (cs.length : Int) := by rw [A.ok_len, hll]
  obtain ⟨g3, hg3⟩ : ∃ g, g = great3 t := ⟨_, rfl⟩
  obtain ⟨gs, hgs⟩ : ∃ g, g = greatS l := ⟨_, rfl⟩
  rw [← hg3] at h7
  rw [← hgs] at h8
  obtain ⟨i, k, st, ks⟩ := t
  rw [E.node] at h7 ⊢
  refine TPure.ofE A T0 (T0_ok hP) (hP ▸ Try.func6) rfl _ rfl (by simp) ?_
  cbv
  refine EW.vs [(10, .bool false), (7, .imm [.int .i64 i, .int .i64 k, .str st, .sl 4 (E.tree.l ks)]), (0, .int .i64 n), (1, .str s), (3, .sl 9 (F.l.l l)), (4, .sl 1 (B.l.l cs))] [] 151 rfl ?_
  cbv
  (repeat (first | exact trivial | refine And.intro (Emb.Pur _ _) ?_ | refine And.intro rfl ?_ | refine And.intro (Pur.mk (by (repeat (first | exact rfl | exact Emb.purL _ _ | assumption | apply pur_cons | apply pur_sl | apply pur_slt | apply pur_agg | apply pur_tup)))) ?_))
  ((try cbv) <;> (repeat ((with_reducible refine EW.of ?_); cbv)))
  refine bsplit (fun h2 => ?_) (fun h2 => ?_)
  · skip
    cbv
    ((try cbv) <;> (repeat ((with_reducible refine EW.of ?_); cbv)))
    (refine ⟨Ent.of (hP ▸ Try.func9) rfl, ?_⟩; refine TC.pureE h9 ?_; cbv; (repeat (first | exact trivial | refine And.intro (Emb.Pur _ _) ?_ | refine And.intro rfl ?_ | refine And.intro (Pur.mk rfl) ?_ | refine And.intro (Pur.mk (by assumption)) ?_)); ((try cbv) <;> (repeat ((with_reducible refine EW.of ?_); cbv))))
  have h2 : s.size ≤ 1000 := lt_nf (i := 1000) h2 rfl (A.ok_slen s)
  cbv
  (refine ⟨Ent.of (hP ▸ Try.func7) rfl, ?_⟩; refine TC.pureE h7 ?_; cbv; (repeat (first | exact trivial | refine And.intro (Emb.Pur _ _) ?_ | refine And.intro rfl ?_ | refine And.intro (Pur.mk rfl) ?_ | refine And.intro (Pur.mk (by assumption)) ?_)); ((try cbv) <;> (repeat ((with_reducible refine EW.of ?_); cbv))))
  cases g3 with
  | true =>
    cbv
    ((try cbv) <;> (repeat ((with_reducible refine EW.of ?_); cbv)))
    (refine ⟨Ent.of (hP ▸ Try.func9) rfl, ?_⟩; refine TC.pureE h9 ?_; cbv; (repeat (first | exact trivial | refine And.intro (Emb.Pur _ _) ?_ | refine And.intro rfl ?_ | refine And.intro (Pur.mk rfl) ?_ | refine And.intro (Pur.mk (by assumption)) ?_)); ((try cbv) <;> (repeat ((with_reducible refine EW.of ?_); cbv))))
  | false =>
  cbv
  (refine ⟨Ent.of (hP ▸ Try.func8) rfl, ?_⟩; refine TC.pureE h8 ?_; cbv; (repeat (first | exact trivial | refine And.intro (Emb.Pur _ _) ?_ | refine And.intro rfl ?_ | refine And.intro (Pur.mk rfl) ?_ | refine And.intro (Pur.mk (by assumption)) ?_)); ((try cbv) <;> (repeat ((with_reducible refine EW.of ?_); cbv))))
  cases gs with
  | true =>
    cbv
    ((try cbv) <;> (repeat ((with_reducible refine EW.of ?_); cbv)))
    (refine ⟨Ent.of (hP ▸ Try.func9) rfl, ?_⟩; refine TC.pureE h9 ?_; cbv; (repeat (first | exact trivial | refine And.intro (Emb.Pur _ _) ?_ | refine And.intro rfl ?_ | refine And.intro (Pur.mk rfl) ?_ | refine And.intro (Pur.mk (by assumption)) ?_)); ((try cbv) <;> (repeat ((with_reducible refine EW.of ?_); cbv))))
  | false =>
  cbv
  ((try cbv) <;> (repeat ((with_reducible refine EW.of ?_); cbv)))
  refine bsplit (fun h1 => ?_) (fun h1 => ?_)
  · skip
    cbv
    ((try cbv) <;> (repeat ((with_reducible refine EW.of ?_); cbv)))
    (refine ⟨Ent.of (hP ▸ Try.func9) rfl, ?_⟩; refine TC.pureE h9 ?_; cbv; (repeat (first | exact trivial | refine And.intro (Emb.Pur _ _) ?_ | refine And.intro rfl ?_ | refine And.intro (Pur.mk rfl) ?_ | refine And.intro (Pur.mk (by assumption)) ?_)); ((try cbv) <;> (repeat ((with_reducible refine EW.of ?_); cbv))))
  have h1 : cs.length ≤ 20000 := lt_nf (i := 20000) h1 rfl hlk
  have hgt := great3_len hg3.symm
  have hgl := greatS_len hgs.symm
  obtain ⟨r1, hr1⟩ : ∃ r, [] ++ numBs n = r := ⟨_, rfl⟩
  obtain ⟨r2, hr2⟩ : ∃ r, r1 ++ (numBs s.size ++ s.data.toList) = r := ⟨_, rfl⟩
  obtain ⟨r3, hr3⟩ : ∃ r, r2 ++ nodeBs (.node i k st ks) = r := ⟨_, rfl⟩
  obtain ⟨bs, hbs⟩ : ∃ r, r3 ++ (numBs l.length ++ stepsBs l) = r := ⟨_, rfl⟩
  have q1 := app_len hr1
  have q2 := app_len hr2
  have q3 := app_len hr3
  have q4 := app_len hbs
  rw [numBs_len] at q1
  rw [text_len] at q2
  rw [List.length_append, numBs_len] at q4
  rw [List.length_nil] at q1
  have c1 := Number10 A B hP [] (by decide) n r1 hr1
  rw [B.l.nil] at c1
  have c2 := Text12 A B hP r1 (by omega) s (by omega) r2 hr2
  have c3 := Node14 A E B hP r2 (by omega) (.node i k st ks) r3 hr3 (by omega)
  have c4 := Steps16 A E B F hP l r3 bs hbs (by omega)
  have hl : bs.length ≤ 1000000000 := by omega
  have c5 := New18 A B hP bs hl
  have hbs2 : bs = numBs n ++ ((numBs s.size ++ s.data.toList) ++ (nodeBs (.node i k st ks) ++ (numBs l.length ++ stepsBs l))) := by
    rw [← hbs, ← hr3, ← hr2, ← hr1]
    simp only [List.append_assoc, List.nil_append]
  obtain ⟨u, a2, x, a3, b3, k4, a4, b4, ex, e, g1, g2, p2, g3', g4, p3, g5, hu, hback⟩ := back_law A hl hn (s := s) hnt hnl hbs2
  have hl8 : 8 ≤ bs.length := by omega
  have d1 := Number20 A B hP bs hl 0 (Nat.zero_le _) (-1) n 8 (-1) g1
  have d2 := Text24 A B hP bs hl 8 hl8 (-1) u a2 (-1) g2
  have d3 := Node26 A E B hP bs hl a2 p2 (-1) x a3 b3 g3'
  have d4 := Steps29 A E B F hP bs hl a3 p3 b3 k4 a4 b4 g4
  have d5 := End34 A B hP bs a4 b4 ex e g5
  have m1 := Same28 A E hP x (.node i k st ks) (askT2_tok hl g3')
  have m2 := SameSteps31 A E F hP k4 l (askSt_tok hl g4).2 (by have := (askSt_tok hl g4).1; omega)
  subst hu
  have hm1 : e = 0 → sameT x (.node i k st ks) = true := fun he => by
    rcases hback with ⟨rfl, _, _⟩ | ⟨rfl, _⟩
    · exact sameT_refl _
    · cases he
  have hm2 : e = 0 → sameL k4 l = true := fun he => by
    rcases hback with ⟨_, rfl, _⟩ | ⟨rfl, _⟩
    · exact sameL_refl _
    · cases he
  generalize sameT x (.node i k st ks) = z1 at m1 hm1
  generalize sameL k4 l = z2 at m2 hm2
  have hne : (l.length ≤ 60 ∧ smallT (.node i k st ks) ∧ ∀ y ∈ l, smallT y.sub) → e = 0 := fun hh => by
    rcases hback with ⟨_, _, h⟩ | ⟨_, h⟩
    · exact h
    · exact absurd hh h
  obtain ⟨zl, fa, fb, fx, fe, k1, k2, k3, k4'⟩ := fore_law A (bs := cs) (by omega)
  have f18 := New18 A B hP cs (by omega)
  have f29 := Steps29 A E B F hP cs (by omega) 0 (Nat.zero_le _) (-1) zl fa fb k1
  have f34 := End34 A B hP cs fa fb fx fe k2
  have f16 := fun h => Steps16 A E B F hP zl [] cs ((List.nil_append _).trans (k3 h).symm) (by omega)
  rw [B.l.nil] at f16
  clear k1 k2 k3 k4'
  clear hback hbs2 g1 g2 g3' g4 g5 hr1 hr2 hr3 hbs q1 q2 q3 q4
  obtain ⟨xi, xk, xs, xks⟩ := x
  rw [E.node] at d3 m1 c3
  rw [E.node] at m1
  unfold rdr at *
  cbv
  ((try cbv) <;> (repeat ((with_reducible refine EW.of ?_); cbv)))
  (refine TW.drawP (A := A) [(8, [some (.box 3 (.agg [.sl 1 (B.l.l bs), .int .i64 0, .int .i64 (-1)]))])] (T0_ok hP) (hP ▸ follows_mixed) (by cbv) rfl (by cbv) (by cbv) (by cbv) rfl rfl rfl ?_; cbv)
  (refine ⟨Ent.of (hP ▸ Try.func10) rfl, ?_⟩; refine ⟨_, ⟨TPure.adj c1 (by cbv; (repeat (first | exact trivial | refine And.intro (Emb.Pur _ _) ?_ | refine And.intro rfl ?_ | refine And.intro (Pur.mk rfl) ?_ | refine And.intro (Pur.mk (by assumption)) ?_))), by (repeat (first | exact rfl | exact Emb.purL _ _ | assumption | apply pur_cons | apply pur_sl | apply pur_slt | apply pur_agg | apply pur_tup))⟩, ?_⟩; cbv)
  (refine ⟨Ent.of (hP ▸ Try.func12) rfl, ?_⟩; refine ⟨_, ⟨TPure.adj c2 (by cbv; (repeat (first | exact trivial | refine And.intro (Emb.Pur _ _) ?_ | refine And.intro rfl ?_ | refine And.intro (Pur.mk rfl) ?_ | refine And.intro (Pur.mk (by assumption)) ?_))), by (repeat (first | exact rfl | exact Emb.purL _ _ | assumption | apply pur_cons | apply pur_sl | apply pur_slt | apply pur_agg | apply pur_tup))⟩, ?_⟩; cbv)
  (refine ⟨Ent.of (hP ▸ Try.func14) rfl, ?_⟩; refine ⟨_, ⟨TPure.adj c3 (by cbv; (repeat (first | exact trivial | refine And.intro (Emb.Pur _ _) ?_ | refine And.intro rfl ?_ | refine And.intro (Pur.mk rfl) ?_ | refine And.intro (Pur.mk (by assumption)) ?_))), by (repeat (first | exact rfl | exact Emb.purL _ _ | assumption | apply pur_cons | apply pur_sl | apply pur_slt | apply pur_agg | apply pur_tup))⟩, ?_⟩; cbv)
  (refine ⟨Ent.of (hP ▸ Try.func16) rfl, ?_⟩; refine ⟨_, ⟨TPure.adj c4 (by cbv; (repeat (first | exact trivial | refine And.intro (Emb.Pur _ _) ?_ | refine And.intro rfl ?_ | refine And.intro (Pur.mk rfl) ?_ | refine And.intro (Pur.mk (by assumption)) ?_))), by (repeat (first | exact rfl | exact Emb.purL _ _ | assumption | apply pur_cons | apply pur_sl | apply pur_slt | apply pur_agg | apply pur_tup))⟩, ?_⟩; cbv)
  refine And.intro (Ent.of (hP ▸ Try.func18) rfl) ⟨.ref 0 3 0 0, [some (.box 3 (.agg [.sl 1 (B.l.l bs), .int .i64 0, .int .i64 (-1)]))], TC1.call [] c5 ?_, ⟨rfl, ?_⟩⟩
  · skip
    cbv
    (repeat (first | exact trivial | refine And.intro (Emb.Pur _ _) ?_ | refine And.intro rfl ?_ | refine And.intro (Pur.mk rfl) ?_))
  cbv
  ((try cbv) <;> (repeat ((with_reducible refine EW.of ?_); cbv)))
  refine ⟨Ent.of (hP ▸ Try.func20) rfl, ?_⟩
  refine TC1.call [0] d1 ?_
  cbv
  (repeat (first | exact trivial | refine And.intro (Emb.Pur _ _) ?_ | refine And.intro rfl ?_ | refine And.intro (Pur.mk rfl) ?_))
  ((try cbv) <;> (repeat ((with_reducible refine EW.of ?_); cbv)))
  refine ⟨Ent.of (hP ▸ Try.func24) rfl, ?_⟩
  refine TC1.call [0] d2 ?_
  cbv
  (repeat (first | exact trivial | refine And.intro (Emb.Pur _ _) ?_ | refine And.intro rfl ?_ | refine And.intro (Pur.mk rfl) ?_))
  ((try cbv) <;> (repeat ((with_reducible refine EW.of ?_); cbv)))
  refine ⟨Ent.of (hP ▸ Try.func26) rfl, ?_⟩
  refine TC1.call [0] d3 ?_
  cbv
  (repeat (first | exact trivial | refine And.intro (Emb.Pur _ _) ?_ | refine And.intro rfl ?_ | refine And.intro (Pur.mk rfl) ?_))
  ((try cbv) <;> (repeat ((with_reducible refine EW.of ?_); cbv)))
  refine ⟨Ent.of (hP ▸ Try.func29) rfl, ?_⟩
  refine TC1.call [0] d4 ?_
  cbv
  (repeat (first | exact trivial | refine And.intro (Emb.Pur _ _) ?_ | refine And.intro rfl ?_ | refine And.intro (Pur.mk rfl) ?_))
  ((try cbv) <;> (repeat ((with_reducible refine EW.of ?_); cbv)))
  refine ⟨Ent.of (hP ▸ Try.func34) rfl, ?_⟩
  refine TC1.call [0] d5 ?_
  cbv
  (repeat (first | exact trivial | refine And.intro (Emb.Pur _ _) ?_ | refine And.intro rfl ?_ | refine And.intro (Pur.mk rfl) ?_))
  ((try cbv) <;> (repeat ((with_reducible refine EW.of ?_); cbv)))
  refine bsplit (fun he => ?_) (fun he => ?_)
  · have he0 : e = 0 := eq_t he rfl rfl
    have hz1 := hm1 he0
    have hz2 := hm2 he0
    subst hz1 hz2
    cbv
    refine bno (neF rfl) ?_
    cbv
    refine bno (show A.bnot (A.seq u u) = false by rw [A.ok_bnot, seqT rfl]; rfl) ?_
    cbv
    (refine ⟨Ent.of (hP ▸ Try.func28) rfl, ?_⟩; refine TC.pureE m1 ?_; cbv; (repeat (first | exact trivial | refine And.intro (Emb.Pur _ _) ?_ | refine And.intro rfl ?_ | refine And.intro (Pur.mk rfl) ?_ | refine And.intro (Pur.mk (by assumption)) ?_)); ((try cbv) <;> (repeat ((with_reducible refine EW.of ?_); cbv))))
    (refine ⟨Ent.of (hP ▸ Try.func31) rfl, ?_⟩; refine TC.pureE m2 ?_; cbv; (repeat (first | exact trivial | refine And.intro (Emb.Pur _ _) ?_ | refine And.intro rfl ?_ | refine And.intro (Pur.mk rfl) ?_ | refine And.intro (Pur.mk (by assumption)) ?_)); ((try cbv) <;> (repeat ((with_reducible refine EW.of ?_); cbv))))
    ((try cbv) <;> (repeat ((with_reducible refine EW.of ?_); cbv)))
    have hsc := F.scal l
    have hfl := F.l.len l
    obtain ⟨sm0, hsm0⟩ : ∃ b, b = A.le (A.len (F.l.l l)) 60 := ⟨_, rfl⟩
    have hsm1 : sm0 = true → l.length ≤ 60 := fun h => by
      rw [hsm0, A.ok_le, A.ok_len, hfl] at h
      have := of_decide_eq_true h
      omega
    obtain ⟨rl, hrl⟩ : ∃ r, r = rows0 (.node i k st ks) l := ⟨_, rfl⟩
    have hrll : rl.length = 1 + l.length := by rw [hrl, rows0, List.length_cons]; omega
    have hrok : ∀ x ∈ rl, x.sub.ok ∧ great3 x.sub = false := by
      intro x hx
      rw [hrl] at hx
      rcases List.mem_cons.1 hx with rfl | hx
      · exact ⟨hok, hg3.symm⟩
      · exact ⟨hokl x hx, by
          have hgs2 := hgs.symm
          simp only [greatS, Bool.or_eq_false_iff] at hgs2
          exact overS_great hgs2.2 x hx⟩
    have hrv : F.l.l rl = .agg [.int .i8 0, .int .i64 0, .int .i64 0, .int .i64 0, .str ⟨⟨[]⟩⟩, .int .i64 i, .int .i64 k, .str st, .sl 4 (E.tree.l ks)] :: F.l.l l := by rw [hrl, rows0, F.l.cons, F.v E]
    have hrle := F.l.len rl
    have hlast : (∀ x ∈ rl, smallT x.sub) → l.length ≤ 60 → e = 0 := fun h1 h2 => hne ⟨h2, by
      have := h1 ⟨0, 0, 0, 0, ⟨#[]⟩, .node i k st ks⟩ (by rw [hrl]; exact List.mem_cons_self)
      exact this, fun y hy => h1 y (by rw [hrl]; exact List.mem_cons_of_mem _ hy)⟩
    obtain ⟨q5, hq5⟩ : ∃ q, q = rl.length := ⟨_, rfl⟩
    clear hrl hne
    have h36 : ∀ t : Tree, t.ok → TPure P 36 [E.tree.v t, .int .i64 251] (.sl 5 (E.spot.l (walkT 251 t [] 1))) := fun t h => Walk23' A E hP t h
    refine msplit (fun hee => ?_) (fun a al hee => ?_)
    · have hee3 : F.l.l l = [] := hee
      have hq6 : A.len [.agg [.int .i8 0, .int .i64 0, .int .i64 0, .int .i64 0, .str ⟨⟨[]⟩⟩, .int .i64 i, .int .i64 k, .str st, .sl 4 (E.tree.l ks)]] = (q5 : Int) := by rw [A.ok_len, hq5, hrll, ← hfl, hee3]; rfl
      have hrv2 : F.l.l rl = [.agg [.int .i8 0, .int .i64 0, .int .i64 0, .int .i64 0, .str ⟨⟨[]⟩⟩, .int .i64 i, .int .i64 k, .str st, .sl 4 (E.tree.l ks)]] := by rw [hrv, hee3]
      cbv
      ((try cbv) <;> (repeat ((with_reducible refine EW.of ?_); cbv)))
      refine TW.vsE [(99, .int .i64 0), (98, .int .i64 (q5 : Int)), (97, .sl 9 (F.l.l rl)), (18, .bool sm0), (17, .int .i64 e), (10, .bool false), (4, .sl 1 (B.l.l cs))] [] 151 rfl ?_
      cbv
      (repeat (first | exact trivial | refine And.intro (Emb.Pur _ _) ?_ | refine And.intro hq6 ?_ | refine And.intro (F.l.cut hq5) ?_ | refine And.intro hrv2.symm ?_ | refine And.intro hsm0.symm ?_ | refine And.intro rfl ?_))
      obtain ⟨S, hS⟩ : ∃ S : LI (Nat × Bool), S = ⟨fun x => [(99, .int .i64 x.1), (98, .int .i64 (q5 : Int)), (97, .sl 9 (F.l.l rl)), (18, .bool x.2), (17, .int .i64 e), (10, .bool false), (4, .sl 1 (B.l.l cs))], fun _ => [], fun x => x.1 ≤ rl.length ∧ (x.2 = true → l.length ≤ 60 ∧ ∀ (j' : Nat) (y : Stp), j' < x.1 → rl[j']? = some y → smallT y.sub), fun x => rl.length - x.1⟩ := ⟨_, rfl⟩
      refine TW.loopM A (T0_ok hP) S _ rfl (0, sm0) ?_ ?_ ?_
      · rw [hS]; exact ⟨Nat.zero_le _, fun h => ⟨hsm1 h, fun j' y hj _ => absurd hj (Nat.not_lt_zero _)⟩⟩
      · rw [hS]
        cbv
        (repeat (first | exact trivial | refine And.intro (Emb.Pur _ _) ?_ | refine And.intro rfl ?_ | refine And.intro (Pur.mk rfl) ?_))
      rintro ⟨j, sm⟩ hj l1 L1 e1 e2
      rw [hS] at hj e1 e2
      dsimp only at hj e1 e2
      obtain ⟨hj, hsm⟩ := hj
      subst e1 e2
      cbv
      ((try cbv) <;> (repeat ((with_reducible refine EW.of ?_); cbv)))
      refine bsplit (fun h => ?_) (fun h => ?_)
      · have h : j < q5 := lt_nt h rfl rfl
        obtain ⟨y, hy⟩ : ∃ y, rl[j]? = some y := ⟨_, List.getElem?_eq_getElem (by omega)⟩
        have hyo := hrok y (List.mem_of_getElem? hy)
        have hsp := smallT_of hyo.2
        have k36 := h36 y.sub hyo.1
        obtain ⟨op, id, par, pl, ys, ⟨yi, yk, yt, yks⟩⟩ := y
        dsimp only at k36 hsp hyo
        rw [E.node] at k36
        obtain ⟨sp, hspq⟩ : ∃ sp, sp = walkT 251 (.node yi yk yt yks) [] 1 := ⟨_, rfl⟩
        rw [← hspq] at k36 hsp
        have hspl : sp.length ≤ 251 := by rw [hspq]; exact (walkT_len 251 _ [] 1).2 (Nat.zero_le _)
        have hsl := E.spot.len sp
        clear hspq
        ((try cbv) <;> (repeat ((with_reducible refine EW.of ?_); cbv)))
        refine ⟨j, _, rfl, F.get E hy, ?_⟩
        cbv
        ((try cbv) <;> (repeat ((with_reducible refine EW.of ?_); cbv)))
        (refine ⟨Ent.of (hP ▸ Try.func36) rfl, ?_⟩; refine TC.pureE k36 ?_; cbv; (repeat (first | exact trivial | refine And.intro (Emb.Pur _ _) ?_ | refine And.intro rfl ?_ | refine And.intro (Pur.mk rfl) ?_ | refine And.intro (Pur.mk (by assumption)) ?_)); ((try cbv) <;> (repeat ((with_reducible refine EW.of ?_); cbv))))
        obtain ⟨S2, hS2⟩ : ∃ S2 : LI (Nat × Bool), S2 = ⟨fun x => [(108, .int .i64 x.1), (107, .int .i64 (A.len (E.spot.l sp))), (21, .sl 5 (E.spot.l sp)), (99, .int .i64 j), (98, .int .i64 (q5 : Int)), (97, .sl 9 (F.l.l rl)), (18, .bool x.2), (17, .int .i64 e), (10, .bool false), (4, .sl 1 (B.l.l cs))], fun _ => [], fun x => x.1 ≤ sp.length ∧ (x.2 = true → sm = true ∧ ∀ (j' : Nat) (y : Tree × Nat), j' < x.1 → sp[j']? = some y → y.2 ≤ 40 ∧ j' < 200), fun x => sp.length - x.1⟩ := ⟨_, rfl⟩
        refine TW.loopM A (T0_ok hP) S2 _ rfl (0, sm) ?_ ?_ ?_
        · rw [hS2]; exact ⟨Nat.zero_le _, fun h => ⟨h, fun j' y hj _ => absurd hj (Nat.not_lt_zero _)⟩⟩
        · rw [hS2]
          cbv
          (repeat (first | exact trivial | refine And.intro (Emb.Pur _ _) ?_ | refine And.intro rfl ?_ | refine And.intro (Pur.mk rfl) ?_))
        rintro ⟨i2, sm2⟩ hj2 l1 L1 e1 e2
        rw [hS2] at hj2 e1 e2
        dsimp only at hj2 e1 e2
        obtain ⟨hj2, hsm2⟩ := hj2
        subst e1 e2
        cbv
        ((try cbv) <;> (repeat ((with_reducible refine EW.of ?_); cbv)))
        refine bsplit (fun h2 => ?_) (fun h2 => ?_)
        · have h2 : i2 < (E.spot.l sp).length := lt_nt h2 rfl (A.ok_len _)
          obtain ⟨z, hz⟩ : ∃ z, sp[i2]? = some z := ⟨_, List.getElem?_eq_getElem (by omega)⟩
          obtain ⟨⟨zi, zk, zs, zks⟩, zd⟩ := z
          cases sm2 with
          | false =>
            ((try cbv) <;> (repeat ((with_reducible refine EW.of ?_); cbv)))
            refine LM.of (i2 + 1, false) rfl ?_ ?_ ?_
            · rw [hS2]; exact ⟨by show i2 + 1 ≤ _; omega, fun h => by cases h⟩
            · rw [hS2]; show sp.length - (i2 + 1) < sp.length - i2; omega
            · rw [hS2]; (cbv; (repeat (first | exact trivial | refine And.intro (Emb.Pur _ _) ?_ | refine And.intro rfl ?_ | refine And.intro (Pur.mk rfl) ?_ | refine And.intro (Pur.mk (by assumption)) ?_)); refine And.intro (inc_eq A (by omega)) ?_; (repeat (first | exact trivial | refine And.intro (Emb.Pur _ _) ?_ | refine And.intro rfl ?_ | refine And.intro (Pur.mk rfl) ?_ | refine And.intro (Pur.mk (by assumption)) ?_)))
          | true =>
            obtain ⟨g1, g2⟩ := hsm2 rfl
            ((try cbv) <;> (repeat ((with_reducible refine EW.of ?_); cbv)))
            refine ⟨i2, _, rfl, E.gets hz, ?_⟩
            cbv
            refine bsplit (fun h3 => ?_) (fun h3 => ?_)
            · have h3 : zd ≤ 40 := le_nt (j := 40) h3 rfl rfl
              ((try cbv) <;> (repeat ((with_reducible refine EW.of ?_); cbv)))
              refine LM.of (i2 + 1, A.lt (i2 : Int) 200) rfl ?_ ?_ ?_
              · rw [hS2]
                refine ⟨by show i2 + 1 ≤ _; omega, fun hh => ⟨g1, fun j' y hj' hy' => ?_⟩⟩
                have h4 : i2 < 200 := lt_nt (j := 200) hh rfl rfl
                by_cases hjj : j' = i2
                · subst hjj
                  rw [hz] at hy'
                  cases hy'
                  exact ⟨h3, h4⟩
                · exact g2 j' y (by have : j' < i2 + 1 := hj'; omega) hy'
              · rw [hS2]; show sp.length - (i2 + 1) < sp.length - i2; omega
              · rw [hS2]; (cbv; (repeat (first | exact trivial | refine And.intro (Emb.Pur _ _) ?_ | refine And.intro rfl ?_ | refine And.intro (Pur.mk rfl) ?_ | refine And.intro (Pur.mk (by assumption)) ?_)); refine And.intro (inc_eq A (by omega)) ?_; (repeat (first | exact trivial | refine And.intro (Emb.Pur _ _) ?_ | refine And.intro rfl ?_ | refine And.intro (Pur.mk rfl) ?_ | refine And.intro (Pur.mk (by assumption)) ?_)))
            · cbv
              ((try cbv) <;> (repeat ((with_reducible refine EW.of ?_); cbv)))
              refine LM.of (i2 + 1, false) rfl ?_ ?_ ?_
              · rw [hS2]; exact ⟨by show i2 + 1 ≤ _; omega, fun h => by cases h⟩
              · rw [hS2]; show sp.length - (i2 + 1) < sp.length - i2; omega
              · rw [hS2]; (cbv; (repeat (first | exact trivial | refine And.intro (Emb.Pur _ _) ?_ | refine And.intro rfl ?_ | refine And.intro (Pur.mk rfl) ?_ | refine And.intro (Pur.mk (by assumption)) ?_)); refine And.intro (inc_eq A (by omega)) ?_; (repeat (first | exact trivial | refine And.intro (Emb.Pur _ _) ?_ | refine And.intro rfl ?_ | refine And.intro (Pur.mk rfl) ?_ | refine And.intro (Pur.mk (by assumption)) ?_)))
        · have h2 : (E.spot.l sp).length ≤ i2 := lt_nf h2 rfl (A.ok_len _)
          ((try cbv) <;> (repeat ((with_reducible refine EW.of ?_); cbv)))
          refine LM.of (j + 1, sm2) rfl ?_ ?_ ?_
          · rw [hS]
            refine ⟨by show j + 1 ≤ _; omega, fun hh => ?_⟩
            obtain ⟨g1, g2⟩ := hsm2 hh
            obtain ⟨g3, g4⟩ := hsm g1
            refine ⟨g3, fun j' y hj' hy' => ?_⟩
            by_cases hjj : j' = j
            · subst hjj
              rw [hy] at hy'
              cases hy'
              exact hsp fun j3 x3 hx3 => g2 j3 x3 (by have := (List.getElem?_eq_some_iff.1 hx3).1; omega) hx3
            · exact g4 j' y (by have : j' < j + 1 := hj'; omega) hy'
          · rw [hS]; show rl.length - (j + 1) < rl.length - j; omega
          · rw [hS]; (cbv; (repeat (first | exact trivial | refine And.intro (Emb.Pur _ _) ?_ | refine And.intro rfl ?_ | refine And.intro (Pur.mk rfl) ?_ | refine And.intro (Pur.mk (by assumption)) ?_)); refine And.intro (inc_eq A (by omega)) ?_; (repeat (first | exact trivial | refine And.intro (Emb.Pur _ _) ?_ | refine And.intro rfl ?_ | refine And.intro (Pur.mk rfl) ?_ | refine And.intro (Pur.mk (by assumption)) ?_)))
      · have h : q5 ≤ j := lt_nf h rfl rfl
        have hfin : sm = true → e = 0 := fun hh => hlast (fun x hx => by
          obtain ⟨j', hj'⟩ := List.mem_iff_getElem?.1 hx
          exact (hsm hh).2 j' x (by have := (List.getElem?_eq_some_iff.1 hj').1; omega) hj') (hsm hh).1
        ((try cbv) <;> (repeat ((with_reducible refine EW.of ?_); cbv)))
        cases sm with
        | true =>
          have hfe := hfin rfl
          ((try cbv) <;> (repeat ((with_reducible refine EW.of ?_); cbv)))
          refine bno (neF hfe) ?_
          ((try cbv) <;> (repeat ((with_reducible refine EW.of ?_); cbv)))
          refine ⟨Ent.of (hP ▸ Try.func18) rfl, ?_⟩
          refine TC1.call [] f18 ?_
          cbv
          (repeat (first | exact trivial | refine And.intro (Emb.Pur _ _) ?_ | refine And.intro rfl ?_ | refine And.intro (Pur.mk rfl) ?_))
          ((try cbv) <;> (repeat ((with_reducible refine EW.of ?_); cbv)))
          refine ⟨Ent.of (hP ▸ Try.func29) rfl, ?_⟩
          refine TC1.call [0] f29 ?_
          cbv
          (repeat (first | exact trivial | refine And.intro (Emb.Pur _ _) ?_ | refine And.intro rfl ?_ | refine And.intro (Pur.mk rfl) ?_))
          ((try cbv) <;> (repeat ((with_reducible refine EW.of ?_); cbv)))
          refine ⟨Ent.of (hP ▸ Try.func34) rfl, ?_⟩
          refine TC1.call [0] f34 ?_
          cbv
          (repeat (first | exact trivial | refine And.intro (Emb.Pur _ _) ?_ | refine And.intro rfl ?_ | refine And.intro (Pur.mk rfl) ?_))
          ((try cbv) <;> (repeat ((with_reducible refine EW.of ?_); cbv)))
          (refine TW.draw (A := A) (T0_ok hP) (hP ▸ follows_mixed) (by kernel_rfl) rfl ?_; cbv)
          refine bsplit (fun hfe => ?_) (fun hfe => ?_)
          · have f16 := f16 (eq_t hfe rfl rfl)
            cbv
            (refine ⟨Ent.of (hP ▸ Try.func16) rfl, ?_⟩; refine ⟨_, TC.pureX f16 (by cbv; (repeat (first | exact trivial | refine And.intro (Emb.Pur _ _) ?_ | refine And.intro rfl ?_ | refine And.intro (Pur.mk rfl) ?_ | refine And.intro (Pur.mk (by assumption)) ?_))), ?_⟩; cbv)
            refine ⟨cs, B.bytes cs, ?_⟩
            cbv
            refine ⟨cs, B.bytes cs, ?_⟩
            cbv
            ((try cbv) <;> (repeat ((with_reducible refine EW.of ?_); cbv)))
            refine bno (show A.bnot (A.seq _ _) = false by rw [A.ok_bnot, seqT rfl]; rfl) ?_
            ((try cbv) <;> (repeat ((with_reducible refine EW.of ?_); cbv)))
            (refine ⟨Ent.of (hP ▸ Try.func9) rfl, ?_⟩; refine TC.pureE h9 ?_; cbv; (repeat (first | exact trivial | refine And.intro (Emb.Pur _ _) ?_ | refine And.intro rfl ?_ | refine And.intro (Pur.mk rfl) ?_ | refine And.intro (Pur.mk (by assumption)) ?_)); ((try cbv) <;> (repeat ((with_reducible refine EW.of ?_); cbv))))
          · cbv
            ((try cbv) <;> (repeat ((with_reducible refine EW.of ?_); cbv)))
            (refine ⟨Ent.of (hP ▸ Try.func9) rfl, ?_⟩; refine TC.pureE h9 ?_; cbv; (repeat (first | exact trivial | refine And.intro (Emb.Pur _ _) ?_ | refine And.intro rfl ?_ | refine And.intro (Pur.mk rfl) ?_ | refine And.intro (Pur.mk (by assumption)) ?_)); ((try cbv) <;> (repeat ((with_reducible refine EW.of ?_); cbv))))
        | false =>
          ((try cbv) <;> (repeat ((with_reducible refine EW.of ?_); cbv)))
          refine ⟨Ent.of (hP ▸ Try.func18) rfl, ?_⟩
          refine TC1.call [] f18 ?_
          cbv
          (repeat (first | exact trivial | refine And.intro (Emb.Pur _ _) ?_ | refine And.intro rfl ?_ | refine And.intro (Pur.mk rfl) ?_))
          ((try cbv) <;> (repeat ((with_reducible refine EW.of ?_); cbv)))
          refine ⟨Ent.of (hP ▸ Try.func29) rfl, ?_⟩
          refine TC1.call [0] f29 ?_
          cbv
          (repeat (first | exact trivial | refine And.intro (Emb.Pur _ _) ?_ | refine And.intro rfl ?_ | refine And.intro (Pur.mk rfl) ?_))
          ((try cbv) <;> (repeat ((with_reducible refine EW.of ?_); cbv)))
          refine ⟨Ent.of (hP ▸ Try.func34) rfl, ?_⟩
          refine TC1.call [0] f34 ?_
          cbv
          (repeat (first | exact trivial | refine And.intro (Emb.Pur _ _) ?_ | refine And.intro rfl ?_ | refine And.intro (Pur.mk rfl) ?_))
          ((try cbv) <;> (repeat ((with_reducible refine EW.of ?_); cbv)))
          (refine TW.draw (A := A) (T0_ok hP) (hP ▸ follows_mixed) (by kernel_rfl) rfl ?_; cbv)
          refine bsplit (fun hfe => ?_) (fun hfe => ?_)
          · have f16 := f16 (eq_t hfe rfl rfl)
            cbv
            (refine ⟨Ent.of (hP ▸ Try.func16) rfl, ?_⟩; refine ⟨_, TC.pureX f16 (by cbv; (repeat (first | exact trivial | refine And.intro (Emb.Pur _ _) ?_ | refine And.intro rfl ?_ | refine And.intro (Pur.mk rfl) ?_ | refine And.intro (Pur.mk (by assumption)) ?_))), ?_⟩; cbv)
            refine ⟨cs, B.bytes cs, ?_⟩
            cbv
            refine ⟨cs, B.bytes cs, ?_⟩
            cbv
            ((try cbv) <;> (repeat ((with_reducible refine EW.of ?_); cbv)))
            refine bno (show A.bnot (A.seq _ _) = false by rw [A.ok_bnot, seqT rfl]; rfl) ?_
            ((try cbv) <;> (repeat ((with_reducible refine EW.of ?_); cbv)))
            (refine ⟨Ent.of (hP ▸ Try.func9) rfl, ?_⟩; refine TC.pureE h9 ?_; cbv; (repeat (first | exact trivial | refine And.intro (Emb.Pur _ _) ?_ | refine And.intro rfl ?_ | refine And.intro (Pur.mk rfl) ?_ | refine And.intro (Pur.mk (by assumption)) ?_)); ((try cbv) <;> (repeat ((with_reducible refine EW.of ?_); cbv))))
          · cbv
            ((try cbv) <;> (repeat ((with_reducible refine EW.of ?_); cbv)))
            (refine ⟨Ent.of (hP ▸ Try.func9) rfl, ?_⟩; refine TC.pureE h9 ?_; cbv; (repeat (first | exact trivial | refine And.intro (Emb.Pur _ _) ?_ | refine And.intro rfl ?_ | refine And.intro (Pur.mk rfl) ?_ | refine And.intro (Pur.mk (by assumption)) ?_)); ((try cbv) <;> (repeat ((with_reducible refine EW.of ?_); cbv))))
    · have hee2 : a :: al = F.l.l l := hee.symm
      refine ⟨⟨by rw [hee2]; exact hsc.h⟩, 1, rfl, q5, F.l.l rl, by rw [hq5, hrll, hee2, hfl], by rw [hrv, hee2]; rfl, Nat.le_refl _, by show q5 * 104 ≤ _; omega, by omega, ?_⟩
      have hq6 := A.ok_nat q5
      have hrv2 : (0 : Nat) = 1 ∨ True := .inr trivial
      cbv
      ((try cbv) <;> (repeat ((with_reducible refine EW.of ?_); cbv)))
      refine TW.vsE [(99, .int .i64 0), (98, .int .i64 (q5 : Int)), (97, .sl 9 (F.l.l rl)), (18, .bool sm0), (17, .int .i64 e), (10, .bool false), (4, .sl 1 (B.l.l cs))] [] 151 rfl ?_
      cbv
      (repeat (first | exact trivial | refine And.intro (Emb.Pur _ _) ?_ | refine And.intro hq6 ?_ | refine And.intro (F.l.cut hq5) ?_ | refine And.intro hrv2.symm ?_ | refine And.intro hsm0.symm ?_ | refine And.intro rfl ?_))
      obtain ⟨S, hS⟩ : ∃ S : LI (Nat × Bool), S = ⟨fun x => [(99, .int .i64 x.1), (98, .int .i64 (q5 : Int)), (97, .sl 9 (F.l.l rl)), (18, .bool x.2), (17, .int .i64 e), (10, .bool false), (4, .sl 1 (B.l.l cs))], fun _ => [], fun x => x.1 ≤ rl.length ∧ (x.2 = true → l.length ≤ 60 ∧ ∀ (j' : Nat) (y : Stp), j' < x.1 → rl[j']? = some y → smallT y.sub), fun x => rl.length - x.1⟩ := ⟨_, rfl⟩
      refine TW.loopM A (T0_ok hP) S _ rfl (0, sm0) ?_ ?_ ?_
      · rw [hS]; exact ⟨Nat.zero_le _, fun h => ⟨hsm1 h, fun j' y hj _ => absurd hj (Nat.not_lt_zero _)⟩⟩
      · rw [hS]
        cbv
        (repeat (first | exact trivial | refine And.intro (Emb.Pur _ _) ?_ | refine And.intro rfl ?_ | refine And.intro (Pur.mk rfl) ?_))
      rintro ⟨j, sm⟩ hj l1 L1 e1 e2
      rw [hS] at hj e1 e2
      dsimp only at hj e1 e2
      obtain ⟨hj, hsm⟩ := hj
      subst e1 e2
      cbv
      ((try cbv) <;> (repeat ((with_reducible refine EW.of ?_); cbv)))
      refine bsplit (fun h => ?_) (fun h => ?_)
      · have h : j < q5 := lt_nt h rfl rfl
        obtain ⟨y, hy⟩ : ∃ y, rl[j]? = some y := ⟨_, List.getElem?_eq_getElem (by omega)⟩
        have hyo := hrok y (List.mem_of_getElem? hy)
        have hsp := smallT_of hyo.2
        have k36 := h36 y.sub hyo.1
        obtain ⟨op, id, par, pl, ys, ⟨yi, yk, yt, yks⟩⟩ := y
        dsimp only at k36 hsp hyo
        rw [E.node] at k36
        obtain ⟨sp, hspq⟩ : ∃ sp, sp = walkT 251 (.node yi yk yt yks) [] 1 := ⟨_, rfl⟩
        rw [← hspq] at k36 hsp
        have hspl : sp.length ≤ 251 := by rw [hspq]; exact (walkT_len 251 _ [] 1).2 (Nat.zero_le _)
        have hsl := E.spot.len sp
        clear hspq
        ((try cbv) <;> (repeat ((with_reducible refine EW.of ?_); cbv)))
        refine ⟨j, _, rfl, F.get E hy, ?_⟩
        cbv
        ((try cbv) <;> (repeat ((with_reducible refine EW.of ?_); cbv)))
        (refine ⟨Ent.of (hP ▸ Try.func36) rfl, ?_⟩; refine TC.pureE k36 ?_; cbv; (repeat (first | exact trivial | refine And.intro (Emb.Pur _ _) ?_ | refine And.intro rfl ?_ | refine And.intro (Pur.mk rfl) ?_ | refine And.intro (Pur.mk (by assumption)) ?_)); ((try cbv) <;> (repeat ((with_reducible refine EW.of ?_); cbv))))
        obtain ⟨S2, hS2⟩ : ∃ S2 : LI (Nat × Bool), S2 = ⟨fun x => [(108, .int .i64 x.1), (107, .int .i64 (A.len (E.spot.l sp))), (21, .sl 5 (E.spot.l sp)), (99, .int .i64 j), (98, .int .i64 (q5 : Int)), (97, .sl 9 (F.l.l rl)), (18, .bool x.2), (17, .int .i64 e), (10, .bool false), (4, .sl 1 (B.l.l cs))], fun _ => [], fun x => x.1 ≤ sp.length ∧ (x.2 = true → sm = true ∧ ∀ (j' : Nat) (y : Tree × Nat), j' < x.1 → sp[j']? = some y → y.2 ≤ 40 ∧ j' < 200), fun x => sp.length - x.1⟩ := ⟨_, rfl⟩
        refine TW.loopM A (T0_ok hP) S2 _ rfl (0, sm) ?_ ?_ ?_
        · rw [hS2]; exact ⟨Nat.zero_le _, fun h => ⟨h, fun j' y hj _ => absurd hj (Nat.not_lt_zero _)⟩⟩
        · rw [hS2]
          cbv
          (repeat (first | exact trivial | refine And.intro (Emb.Pur _ _) ?_ | refine And.intro rfl ?_ | refine And.intro (Pur.mk rfl) ?_))
        rintro ⟨i2, sm2⟩ hj2 l1 L1 e1 e2
        rw [hS2] at hj2 e1 e2
        dsimp only at hj2 e1 e2
        obtain ⟨hj2, hsm2⟩ := hj2
        subst e1 e2
        cbv
        ((try cbv) <;> (repeat ((with_reducible refine EW.of ?_); cbv)))
        refine bsplit (fun h2 => ?_) (fun h2 => ?_)
        · have h2 : i2 < (E.spot.l sp).length := lt_nt h2 rfl (A.ok_len _)
          obtain ⟨z, hz⟩ : ∃ z, sp[i2]? = some z := ⟨_, List.getElem?_eq_getElem (by omega)⟩
          obtain ⟨⟨zi, zk, zs, zks⟩, zd⟩ := z
          cases sm2 with
          | false =>
            ((try cbv) <;> (repeat ((with_reducible refine EW.of ?_); cbv)))
            refine LM.of (i2 + 1, false) rfl ?_ ?_ ?_
            · rw [hS2]; exact ⟨by show i2 + 1 ≤ _; omega, fun h => by cases h⟩
            · rw [hS2]; show sp.length - (i2 + 1) < sp.length - i2; omega
            · rw [hS2]; (cbv; (repeat (first | exact trivial | refine And.intro (Emb.Pur _ _) ?_ | refine And.intro rfl ?_ | refine And.intro (Pur.mk rfl) ?_ | refine And.intro (Pur.mk (by assumption)) ?_)); refine And.intro (inc_eq A (by omega)) ?_; (repeat (first | exact trivial | refine And.intro (Emb.Pur _ _) ?_ | refine And.intro rfl ?_ | refine And.intro (Pur.mk rfl) ?_ | refine And.intro (Pur.mk (by assumption)) ?_)))
          | true =>
            obtain ⟨g1, g2⟩ := hsm2 rfl
            ((try cbv) <;> (repeat ((with_reducible refine EW.of ?_); cbv)))
            refine ⟨i2, _, rfl, E.gets hz, ?_⟩
            cbv
            refine bsplit (fun h3 => ?_) (fun h3 => ?_)
            · have h3 : zd ≤ 40 := le_nt (j := 40) h3 rfl rfl
              ((try cbv) <;> (repeat ((with_reducible refine EW.of ?_); cbv)))
              refine LM.of (i2 + 1, A.lt (i2 : Int) 200) rfl ?_ ?_ ?_
              · rw [hS2]
                refine ⟨by show i2 + 1 ≤ _; omega, fun hh => ⟨g1, fun j' y hj' hy' => ?_⟩⟩
                have h4 : i2 < 200 := lt_nt (j := 200) hh rfl rfl
                by_cases hjj : j' = i2
                · subst hjj
                  rw [hz] at hy'
                  cases hy'
                  exact ⟨h3, h4⟩
                · exact g2 j' y (by have : j' < i2 + 1 := hj'; omega) hy'
              · rw [hS2]; show sp.length - (i2 + 1) < sp.length - i2; omega
              · rw [hS2]; (cbv; (repeat (first | exact trivial | refine And.intro (Emb.Pur _ _) ?_ | refine And.intro rfl ?_ | refine And.intro (Pur.mk rfl) ?_ | refine And.intro (Pur.mk (by assumption)) ?_)); refine And.intro (inc_eq A (by omega)) ?_; (repeat (first | exact trivial | refine And.intro (Emb.Pur _ _) ?_ | refine And.intro rfl ?_ | refine And.intro (Pur.mk rfl) ?_ | refine And.intro (Pur.mk (by assumption)) ?_)))
            · cbv
              ((try cbv) <;> (repeat ((with_reducible refine EW.of ?_); cbv)))
              refine LM.of (i2 + 1, false) rfl ?_ ?_ ?_
              · rw [hS2]; exact ⟨by show i2 + 1 ≤ _; omega, fun h => by cases h⟩
              · rw [hS2]; show sp.length - (i2 + 1) < sp.length - i2; omega
              · rw [hS2]; (cbv; (repeat (first | exact trivial | refine And.intro (Emb.Pur _ _) ?_ | refine And.intro rfl ?_ | refine And.intro (Pur.mk rfl) ?_ | refine And.intro (Pur.mk (by assumption)) ?_)); refine And.intro (inc_eq A (by omega)) ?_; (repeat (first | exact trivial | refine And.intro (Emb.Pur _ _) ?_ | refine And.intro rfl ?_ | refine And.intro (Pur.mk rfl) ?_ | refine And.intro (Pur.mk (by assumption)) ?_)))
        · have h2 : (E.spot.l sp).length ≤ i2 := lt_nf h2 rfl (A.ok_len _)
          ((try cbv) <;> (repeat ((with_reducible refine EW.of ?_); cbv)))
          refine LM.of (j + 1, sm2) rfl ?_ ?_ ?_
          · rw [hS]
            refine ⟨by show j + 1 ≤ _; omega, fun hh => ?_⟩
            obtain ⟨g1, g2⟩ := hsm2 hh
            obtain ⟨g3, g4⟩ := hsm g1
            refine ⟨g3, fun j' y hj' hy' => ?_⟩
            by_cases hjj : j' = j
            · subst hjj
              rw [hy] at hy'
              cases hy'
              exact hsp fun j3 x3 hx3 => g2 j3 x3 (by have := (List.getElem?_eq_some_iff.1 hx3).1; omega) hx3
            · exact g4 j' y (by have : j' < j + 1 := hj'; omega) hy'
          · rw [hS]; show rl.length - (j + 1) < rl.length - j; omega
          · rw [hS]; (cbv; (repeat (first | exact trivial | refine And.intro (Emb.Pur _ _) ?_ | refine And.intro rfl ?_ | refine And.intro (Pur.mk rfl) ?_ | refine And.intro (Pur.mk (by assumption)) ?_)); refine And.intro (inc_eq A (by omega)) ?_; (repeat (first | exact trivial | refine And.intro (Emb.Pur _ _) ?_ | refine And.intro rfl ?_ | refine And.intro (Pur.mk rfl) ?_ | refine And.intro (Pur.mk (by assumption)) ?_)))
      · have h : q5 ≤ j := lt_nf h rfl rfl
        have hfin : sm = true → e = 0 := fun hh => hlast (fun x hx => by
          obtain ⟨j', hj'⟩ := List.mem_iff_getElem?.1 hx
          exact (hsm hh).2 j' x (by have := (List.getElem?_eq_some_iff.1 hj').1; omega) hj') (hsm hh).1
        ((try cbv) <;> (repeat ((with_reducible refine EW.of ?_); cbv)))
        cases sm with
        | true =>
          have hfe := hfin rfl
          ((try cbv) <;> (repeat ((with_reducible refine EW.of ?_); cbv)))
          refine bno (neF hfe) ?_
          ((try cbv) <;> (repeat ((with_reducible refine EW.of ?_); cbv)))
          refine ⟨Ent.of (hP ▸ Try.func18) rfl, ?_⟩
          refine TC1.call [] f18 ?_
          cbv
          (repeat (first | exact trivial | refine And.intro (Emb.Pur _ _) ?_ | refine And.intro rfl ?_ | refine And.intro (Pur.mk rfl) ?_))
          ((try cbv) <;> (repeat ((with_reducible refine EW.of ?_); cbv)))
          refine ⟨Ent.of (hP ▸ Try.func29) rfl, ?_⟩
          refine TC1.call [0] f29 ?_
          cbv
          (repeat (first | exact trivial | refine And.intro (Emb.Pur _ _) ?_ | refine And.intro rfl ?_ | refine And.intro (Pur.mk rfl) ?_))
          ((try cbv) <;> (repeat ((with_reducible refine EW.of ?_); cbv)))
          refine ⟨Ent.of (hP ▸ Try.func34) rfl, ?_⟩
          refine TC1.call [0] f34 ?_
          cbv
          (repeat (first | exact trivial | refine And.intro (Emb.Pur _ _) ?_ | refine And.intro rfl ?_ | refine And.intro (Pur.mk rfl) ?_))
          ((try cbv) <;> (repeat ((with_reducible refine EW.of ?_); cbv)))
          (refine TW.draw (A := A) (T0_ok hP) (hP ▸ follows_mixed) (by kernel_rfl) rfl ?_; cbv)
          refine bsplit (fun hfe => ?_) (fun hfe => ?_)
          · have f16 := f16 (eq_t hfe rfl rfl)
            cbv
            (refine ⟨Ent.of (hP ▸ Try.func16) rfl, ?_⟩; refine ⟨_, TC.pureX f16 (by cbv; (repeat (first | exact trivial | refine And.intro (Emb.Pur _ _) ?_ | refine And.intro rfl ?_ | refine And.intro (Pur.mk rfl) ?_ | refine And.intro (Pur.mk (by assumption)) ?_))), ?_⟩; cbv)
            refine ⟨cs, B.bytes cs, ?_⟩
            cbv
            refine ⟨cs, B.bytes cs, ?_⟩
            cbv
            ((try cbv) <;> (repeat ((with_reducible refine EW.of ?_); cbv)))
            refine bno (show A.bnot (A.seq _ _) = false by rw [A.ok_bnot, seqT rfl]; rfl) ?_
            ((try cbv) <;> (repeat ((with_reducible refine EW.of ?_); cbv)))
            (refine ⟨Ent.of (hP ▸ Try.func9) rfl, ?_⟩; refine TC.pureE h9 ?_; cbv; (repeat (first | exact trivial | refine And.intro (Emb.Pur _ _) ?_ | refine And.intro rfl ?_ | refine And.intro (Pur.mk rfl) ?_ | refine And.intro (Pur.mk (by assumption)) ?_)); ((try cbv) <;> (repeat ((with_reducible refine EW.of ?_); cbv))))
          · cbv
            ((try cbv) <;> (repeat ((with_reducible refine EW.of ?_); cbv)))
            (refine ⟨Ent.of (hP ▸ Try.func9) rfl, ?_⟩; refine TC.pureE h9 ?_; cbv; (repeat (first | exact trivial | refine And.intro (Emb.Pur _ _) ?_ | refine And.intro rfl ?_ | refine And.intro (Pur.mk rfl) ?_ | refine And.intro (Pur.mk (by assumption)) ?_)); ((try cbv) <;> (repeat ((with_reducible refine EW.of ?_); cbv))))
        | false =>
          ((try cbv) <;> (repeat ((with_reducible refine EW.of ?_); cbv)))
          refine ⟨Ent.of (hP ▸ Try.func18) rfl, ?_⟩
          refine TC1.call [] f18 ?_
          cbv
          (repeat (first | exact trivial | refine And.intro (Emb.Pur _ _) ?_ | refine And.intro rfl ?_ | refine And.intro (Pur.mk rfl) ?_))
          ((try cbv) <;> (repeat ((with_reducible refine EW.of ?_); cbv)))
          refine ⟨Ent.of (hP ▸ Try.func29) rfl, ?_⟩
          refine TC1.call [0] f29 ?_
          cbv
          (repeat (first | exact trivial | refine And.intro (Emb.Pur _ _) ?_ | refine And.intro rfl ?_ | refine And.intro (Pur.mk rfl) ?_))
          ((try cbv) <;> (repeat ((with_reducible refine EW.of ?_); cbv)))
          refine ⟨Ent.of (hP ▸ Try.func34) rfl, ?_⟩
          refine TC1.call [0] f34 ?_
          cbv
          (repeat (first | exact trivial | refine And.intro (Emb.Pur _ _) ?_ | refine And.intro rfl ?_ | refine And.intro (Pur.mk rfl) ?_))
          ((try cbv) <;> (repeat ((with_reducible refine EW.of ?_); cbv)))
          (refine TW.draw (A := A) (T0_ok hP) (hP ▸ follows_mixed) (by kernel_rfl) rfl ?_; cbv)
          refine bsplit (fun hfe => ?_) (fun hfe => ?_)
          · have f16 := f16 (eq_t hfe rfl rfl)
            cbv
            (refine ⟨Ent.of (hP ▸ Try.func16) rfl, ?_⟩; refine ⟨_, TC.pureX f16 (by cbv; (repeat (first | exact trivial | refine And.intro (Emb.Pur _ _) ?_ | refine And.intro rfl ?_ | refine And.intro (Pur.mk rfl) ?_ | refine And.intro (Pur.mk (by assumption)) ?_))), ?_⟩; cbv)
            refine ⟨cs, B.bytes cs, ?_⟩
            cbv
            refine ⟨cs, B.bytes cs, ?_⟩
            cbv
            ((try cbv) <;> (repeat ((with_reducible refine EW.of ?_); cbv)))
            refine bno (show A.bnot (A.seq _ _) = false by rw [A.ok_bnot, seqT rfl]; rfl) ?_
            ((try cbv) <;> (repeat ((with_reducible refine EW.of ?_); cbv)))
            (refine ⟨Ent.of (hP ▸ Try.func9) rfl, ?_⟩; refine TC.pureE h9 ?_; cbv; (repeat (first | exact trivial | refine And.intro (Emb.Pur _ _) ?_ | refine And.intro rfl ?_ | refine And.intro (Pur.mk rfl) ?_ | refine And.intro (Pur.mk (by assumption)) ?_)); ((try cbv) <;> (repeat ((with_reducible refine EW.of ?_); cbv))))
          · cbv
            ((try cbv) <;> (repeat ((with_reducible refine EW.of ?_); cbv)))
            (refine ⟨Ent.of (hP ▸ Try.func9) rfl, ?_⟩; refine TC.pureE h9 ?_; cbv; (repeat (first | exact trivial | refine And.intro (Emb.Pur _ _) ?_ | refine And.intro rfl ?_ | refine And.intro (Pur.mk rfl) ?_ | refine And.intro (Pur.mk (by assumption)) ?_)); ((try cbv) <;> (repeat ((with_reducible refine EW.of ?_); cbv))))
  · cbv
    ((try cbv) <;> (repeat ((with_reducible refine EW.of ?_); cbv)))
    have hsc := F.scal l
    have hfl := F.l.len l
    obtain ⟨sm0, hsm0⟩ : ∃ b, b = A.le (A.len (F.l.l l)) 60 := ⟨_, rfl⟩
    have hsm1 : sm0 = true → l.length ≤ 60 := fun h => by
      rw [hsm0, A.ok_le, A.ok_len, hfl] at h
      have := of_decide_eq_true h
      omega
    obtain ⟨rl, hrl⟩ : ∃ r, r = rows0 (.node i k st ks) l := ⟨_, rfl⟩
    have hrll : rl.length = 1 + l.length := by rw [hrl, rows0, List.length_cons]; omega
    have hrok : ∀ x ∈ rl, x.sub.ok ∧ great3 x.sub = false := by
      intro x hx
      rw [hrl] at hx
      rcases List.mem_cons.1 hx with rfl | hx
      · exact ⟨hok, hg3.symm⟩
      · exact ⟨hokl x hx, by
          have hgs2 := hgs.symm
          simp only [greatS, Bool.or_eq_false_iff] at hgs2
          exact overS_great hgs2.2 x hx⟩
    have hrv : F.l.l rl = .agg [.int .i8 0, .int .i64 0, .int .i64 0, .int .i64 0, .str ⟨⟨[]⟩⟩, .int .i64 i, .int .i64 k, .str st, .sl 4 (E.tree.l ks)] :: F.l.l l := by rw [hrl, rows0, F.l.cons, F.v E]
    have hrle := F.l.len rl
    have hlast : (∀ x ∈ rl, smallT x.sub) → l.length ≤ 60 → e = 0 := fun h1 h2 => hne ⟨h2, by
      have := h1 ⟨0, 0, 0, 0, ⟨#[]⟩, .node i k st ks⟩ (by rw [hrl]; exact List.mem_cons_self)
      exact this, fun y hy => h1 y (by rw [hrl]; exact List.mem_cons_of_mem _ hy)⟩
    obtain ⟨q5, hq5⟩ : ∃ q, q = rl.length := ⟨_, rfl⟩
    clear hrl hne
    have h36 : ∀ t : Tree, t.ok → TPure P 36 [E.tree.v t, .int .i64 251] (.sl 5 (E.spot.l (walkT 251 t [] 1))) := fun t h => Walk23' A E hP t h
    refine msplit (fun hee => ?_) (fun a al hee => ?_)
    · have hee3 : F.l.l l = [] := hee
      have hq6 : A.len [.agg [.int .i8 0, .int .i64 0, .int .i64 0, .int .i64 0, .str ⟨⟨[]⟩⟩, .int .i64 i, .int .i64 k, .str st, .sl 4 (E.tree.l ks)]] = (q5 : Int) := by rw [A.ok_len, hq5, hrll, ← hfl, hee3]; rfl
      have hrv2 : F.l.l rl = [.agg [.int .i8 0, .int .i64 0, .int .i64 0, .int .i64 0, .str ⟨⟨[]⟩⟩, .int .i64 i, .int .i64 k, .str st, .sl 4 (E.tree.l ks)]] := by rw [hrv, hee3]
      cbv
      ((try cbv) <;> (repeat ((with_reducible refine EW.of ?_); cbv)))
      refine TW.vsE [(99, .int .i64 0), (98, .int .i64 (q5 : Int)), (97, .sl 9 (F.l.l rl)), (18, .bool sm0), (17, .int .i64 e), (10, .bool false), (4, .sl 1 (B.l.l cs))] [] 151 rfl ?_
      cbv
      (repeat (first | exact trivial | refine And.intro (Emb.Pur _ _) ?_ | refine And.intro hq6 ?_ | refine And.intro (F.l.cut hq5) ?_ | refine And.intro hrv2.symm ?_ | refine And.intro hsm0.symm ?_ | refine And.intro rfl ?_))
      obtain ⟨S, hS⟩ : ∃ S : LI (Nat × Bool), S = ⟨fun x => [(99, .int .i64 x.1), (98, .int .i64 (q5 : Int)), (97, .sl 9 (F.l.l rl)), (18, .bool x.2), (17, .int .i64 e), (10, .bool false), (4, .sl 1 (B.l.l cs))], fun _ => [], fun x => x.1 ≤ rl.length ∧ (x.2 = true → l.length ≤ 60 ∧ ∀ (j' : Nat) (y : Stp), j' < x.1 → rl[j']? = some y → smallT y.sub), fun x => rl.length - x.1⟩ := ⟨_, rfl⟩
      refine TW.loopM A (T0_ok hP) S _ rfl (0, sm0) ?_ ?_ ?_
      · rw [hS]; exact ⟨Nat.zero_le _, fun h => ⟨hsm1 h, fun j' y hj _ => absurd hj (Nat.not_lt_zero _)⟩⟩
      · rw [hS]
        cbv
        (repeat (first | exact trivial | refine And.intro (Emb.Pur _ _) ?_ | refine And.intro rfl ?_ | refine And.intro (Pur.mk rfl) ?_))
      rintro ⟨j, sm⟩ hj l1 L1 e1 e2
      rw [hS] at hj e1 e2
      dsimp only at hj e1 e2
      obtain ⟨hj, hsm⟩ := hj
      subst e1 e2
      cbv
      ((try cbv) <;> (repeat ((with_reducible refine EW.of ?_); cbv)))
      refine bsplit (fun h => ?_) (fun h => ?_)
      · have h : j < q5 := lt_nt h rfl rfl
        obtain ⟨y, hy⟩ : ∃ y, rl[j]? = some y := ⟨_, List.getElem?_eq_getElem (by omega)⟩
        have hyo := hrok y (List.mem_of_getElem? hy)
        have hsp := smallT_of hyo.2
        have k36 := h36 y.sub hyo.1
        obtain ⟨op, id, par, pl, ys, ⟨yi, yk, yt, yks⟩⟩ := y
        dsimp only at k36 hsp hyo
        rw [E.node] at k36
        obtain ⟨sp, hspq⟩ : ∃ sp, sp = walkT 251 (.node yi yk yt yks) [] 1 := ⟨_, rfl⟩
        rw [← hspq] at k36 hsp
        have hspl : sp.length ≤ 251 := by rw [hspq]; exact (walkT_len 251 _ [] 1).2 (Nat.zero_le _)
        have hsl := E.spot.len sp
        clear hspq
        ((try cbv) <;> (repeat ((with_reducible refine EW.of ?_); cbv)))
        refine ⟨j, _, rfl, F.get E hy, ?_⟩
        cbv
        ((try cbv) <;> (repeat ((with_reducible refine EW.of ?_); cbv)))
        (refine ⟨Ent.of (hP ▸ Try.func36) rfl, ?_⟩; refine TC.pureE k36 ?_; cbv; (repeat (first | exact trivial | refine And.intro (Emb.Pur _ _) ?_ | refine And.intro rfl ?_ | refine And.intro (Pur.mk rfl) ?_ | refine And.intro (Pur.mk (by assumption)) ?_)); ((try cbv) <;> (repeat ((with_reducible refine EW.of ?_); cbv))))
        obtain ⟨S2, hS2⟩ : ∃ S2 : LI (Nat × Bool), S2 = ⟨fun x => [(108, .int .i64 x.1), (107, .int .i64 (A.len (E.spot.l sp))), (21, .sl 5 (E.spot.l sp)), (99, .int .i64 j), (98, .int .i64 (q5 : Int)), (97, .sl 9 (F.l.l rl)), (18, .bool x.2), (17, .int .i64 e), (10, .bool false), (4, .sl 1 (B.l.l cs))], fun _ => [], fun x => x.1 ≤ sp.length ∧ (x.2 = true → sm = true ∧ ∀ (j' : Nat) (y : Tree × Nat), j' < x.1 → sp[j']? = some y → y.2 ≤ 40 ∧ j' < 200), fun x => sp.length - x.1⟩ := ⟨_, rfl⟩
        refine TW.loopM A (T0_ok hP) S2 _ rfl (0, sm) ?_ ?_ ?_
        · rw [hS2]; exact ⟨Nat.zero_le _, fun h => ⟨h, fun j' y hj _ => absurd hj (Nat.not_lt_zero _)⟩⟩
        · rw [hS2]
          cbv
          (repeat (first | exact trivial | refine And.intro (Emb.Pur _ _) ?_ | refine And.intro rfl ?_ | refine And.intro (Pur.mk rfl) ?_))
        rintro ⟨i2, sm2⟩ hj2 l1 L1 e1 e2
        rw [hS2] at hj2 e1 e2
        dsimp only at hj2 e1 e2
        obtain ⟨hj2, hsm2⟩ := hj2
        subst e1 e2
        cbv
        ((try cbv) <;> (repeat ((with_reducible refine EW.of ?_); cbv)))
        refine bsplit (fun h2 => ?_) (fun h2 => ?_)
        · have h2 : i2 < (E.spot.l sp).length := lt_nt h2 rfl (A.ok_len _)
          obtain ⟨z, hz⟩ : ∃ z, sp[i2]? = some z := ⟨_, List.getElem?_eq_getElem (by omega)⟩
          obtain ⟨⟨zi, zk, zs, zks⟩, zd⟩ := z
          cases sm2 with
          | false =>
            ((try cbv) <;> (repeat ((with_reducible refine EW.of ?_); cbv)))
            refine LM.of (i2 + 1, false) rfl ?_ ?_ ?_
            · rw [hS2]; exact ⟨by show i2 + 1 ≤ _; omega, fun h => by cases h⟩
            · rw [hS2]; show sp.length - (i2 + 1) < sp.length - i2; omega
            · rw [hS2]; (cbv; (repeat (first | exact trivial | refine And.intro (Emb.Pur _ _) ?_ | refine And.intro rfl ?_ | refine And.intro (Pur.mk rfl) ?_ | refine And.intro (Pur.mk (by assumption)) ?_)); refine And.intro (inc_eq A (by omega)) ?_; (repeat (first | exact trivial | refine And.intro (Emb.Pur _ _) ?_ | refine And.intro rfl ?_ | refine And.intro (Pur.mk rfl) ?_ | refine And.intro (Pur.mk (by assumption)) ?_)))
          | true =>
            obtain ⟨g1, g2⟩ := hsm2 rfl
            ((try cbv) <;> (repeat ((with_reducible refine EW.of ?_); cbv)))
            refine ⟨i2, _, rfl, E.gets hz, ?_⟩
            cbv
            refine bsplit (fun h3 => ?_) (fun h3 => ?_)
            · have h3 : zd ≤ 40 := le_nt (j := 40) h3 rfl rfl
              ((try cbv) <;> (repeat ((with_reducible refine EW.of ?_); cbv)))
              refine LM.of (i2 + 1, A.lt (i2 : Int) 200) rfl ?_ ?_ ?_
              · rw [hS2]
                refine ⟨by show i2 + 1 ≤ _; omega, fun hh => ⟨g1, fun j' y hj' hy' => ?_⟩⟩
                have h4 : i2 < 200 := lt_nt (j := 200) hh rfl rfl
                by_cases hjj : j' = i2
                · subst hjj
                  rw [hz] at hy'
                  cases hy'
                  exact ⟨h3, h4⟩
                · exact g2 j' y (by have : j' < i2 + 1 := hj'; omega) hy'
              · rw [hS2]; show sp.length - (i2 + 1) < sp.length - i2; omega
              · rw [hS2]; (cbv; (repeat (first | exact trivial | refine And.intro (Emb.Pur _ _) ?_ | refine And.intro rfl ?_ | refine And.intro (Pur.mk rfl) ?_ | refine And.intro (Pur.mk (by assumption)) ?_)); refine And.intro (inc_eq A (by omega)) ?_; (repeat (first | exact trivial | refine And.intro (Emb.Pur _ _) ?_ | refine And.intro rfl ?_ | refine And.intro (Pur.mk rfl) ?_ | refine And.intro (Pur.mk (by assumption)) ?_)))
            · cbv
              ((try cbv) <;> (repeat ((with_reducible refine EW.of ?_); cbv)))
              refine LM.of (i2 + 1, false) rfl ?_ ?_ ?_
              · rw [hS2]; exact ⟨by show i2 + 1 ≤ _; omega, fun h => by cases h⟩
              · rw [hS2]; show sp.length - (i2 + 1) < sp.length - i2; omega
              · rw [hS2]; (cbv; (repeat (first | exact trivial | refine And.intro (Emb.Pur _ _) ?_ | refine And.intro rfl ?_ | refine And.intro (Pur.mk rfl) ?_ | refine And.intro (Pur.mk (by assumption)) ?_)); refine And.intro (inc_eq A (by omega)) ?_; (repeat (first | exact trivial | refine And.intro (Emb.Pur _ _) ?_ | refine And.intro rfl ?_ | refine And.intro (Pur.mk rfl) ?_ | refine And.intro (Pur.mk (by assumption)) ?_)))
        · have h2 : (E.spot.l sp).length ≤ i2 := lt_nf h2 rfl (A.ok_len _)
          ((try cbv) <;> (repeat ((with_reducible refine EW.of ?_); cbv)))
          refine LM.of (j + 1, sm2) rfl ?_ ?_ ?_
          · rw [hS]
            refine ⟨by show j + 1 ≤ _; omega, fun hh => ?_⟩
            obtain ⟨g1, g2⟩ := hsm2 hh
            obtain ⟨g3, g4⟩ := hsm g1
            refine ⟨g3, fun j' y hj' hy' => ?_⟩
            by_cases hjj : j' = j
            · subst hjj
              rw [hy] at hy'
              cases hy'
              exact hsp fun j3 x3 hx3 => g2 j3 x3 (by have := (List.getElem?_eq_some_iff.1 hx3).1; omega) hx3
            · exact g4 j' y (by have : j' < j + 1 := hj'; omega) hy'
          · rw [hS]; show rl.length - (j + 1) < rl.length - j; omega
          · rw [hS]; (cbv; (repeat (first | exact trivial | refine And.intro (Emb.Pur _ _) ?_ | refine And.intro rfl ?_ | refine And.intro (Pur.mk rfl) ?_ | refine And.intro (Pur.mk (by assumption)) ?_)); refine And.intro (inc_eq A (by omega)) ?_; (repeat (first | exact trivial | refine And.intro (Emb.Pur _ _) ?_ | refine And.intro rfl ?_ | refine And.intro (Pur.mk rfl) ?_ | refine And.intro (Pur.mk (by assumption)) ?_)))
      · have h : q5 ≤ j := lt_nf h rfl rfl
        have hfin : sm = true → e = 0 := fun hh => hlast (fun x hx => by
          obtain ⟨j', hj'⟩ := List.mem_iff_getElem?.1 hx
          exact (hsm hh).2 j' x (by have := (List.getElem?_eq_some_iff.1 hj').1; omega) hj') (hsm hh).1
        ((try cbv) <;> (repeat ((with_reducible refine EW.of ?_); cbv)))
        cases sm with
        | true =>
          have hfe := hfin rfl
          ((try cbv) <;> (repeat ((with_reducible refine EW.of ?_); cbv)))
          refine bno (neF hfe) ?_
          ((try cbv) <;> (repeat ((with_reducible refine EW.of ?_); cbv)))
          refine ⟨Ent.of (hP ▸ Try.func18) rfl, ?_⟩
          refine TC1.call [] f18 ?_
          cbv
          (repeat (first | exact trivial | refine And.intro (Emb.Pur _ _) ?_ | refine And.intro rfl ?_ | refine And.intro (Pur.mk rfl) ?_))
          ((try cbv) <;> (repeat ((with_reducible refine EW.of ?_); cbv)))
          refine ⟨Ent.of (hP ▸ Try.func29) rfl, ?_⟩
          refine TC1.call [0] f29 ?_
          cbv
          (repeat (first | exact trivial | refine And.intro (Emb.Pur _ _) ?_ | refine And.intro rfl ?_ | refine And.intro (Pur.mk rfl) ?_))
          ((try cbv) <;> (repeat ((with_reducible refine EW.of ?_); cbv)))
          refine ⟨Ent.of (hP ▸ Try.func34) rfl, ?_⟩
          refine TC1.call [0] f34 ?_
          cbv
          (repeat (first | exact trivial | refine And.intro (Emb.Pur _ _) ?_ | refine And.intro rfl ?_ | refine And.intro (Pur.mk rfl) ?_))
          ((try cbv) <;> (repeat ((with_reducible refine EW.of ?_); cbv)))
          (refine TW.draw (A := A) (T0_ok hP) (hP ▸ follows_mixed) (by kernel_rfl) rfl ?_; cbv)
          refine bsplit (fun hfe => ?_) (fun hfe => ?_)
          · have f16 := f16 (eq_t hfe rfl rfl)
            cbv
            (refine ⟨Ent.of (hP ▸ Try.func16) rfl, ?_⟩; refine ⟨_, TC.pureX f16 (by cbv; (repeat (first | exact trivial | refine And.intro (Emb.Pur _ _) ?_ | refine And.intro rfl ?_ | refine And.intro (Pur.mk rfl) ?_ | refine And.intro (Pur.mk (by assumption)) ?_))), ?_⟩; cbv)
            refine ⟨cs, B.bytes cs, ?_⟩
            cbv
            refine ⟨cs, B.bytes cs, ?_⟩
            cbv
            ((try cbv) <;> (repeat ((with_reducible refine EW.of ?_); cbv)))
            refine bno (show A.bnot (A.seq _ _) = false by rw [A.ok_bnot, seqT rfl]; rfl) ?_
            ((try cbv) <;> (repeat ((with_reducible refine EW.of ?_); cbv)))
            (refine ⟨Ent.of (hP ▸ Try.func9) rfl, ?_⟩; refine TC.pureE h9 ?_; cbv; (repeat (first | exact trivial | refine And.intro (Emb.Pur _ _) ?_ | refine And.intro rfl ?_ | refine And.intro (Pur.mk rfl) ?_ | refine And.intro (Pur.mk (by assumption)) ?_)); ((try cbv) <;> (repeat ((with_reducible refine EW.of ?_); cbv))))
          · cbv
            ((try cbv) <;> (repeat ((with_reducible refine EW.of ?_); cbv)))
            (refine ⟨Ent.of (hP ▸ Try.func9) rfl, ?_⟩; refine TC.pureE h9 ?_; cbv; (repeat (first | exact trivial | refine And.intro (Emb.Pur _ _) ?_ | refine And.intro rfl ?_ | refine And.intro (Pur.mk rfl) ?_ | refine And.intro (Pur.mk (by assumption)) ?_)); ((try cbv) <;> (repeat ((with_reducible refine EW.of ?_); cbv))))
        | false =>
          ((try cbv) <;> (repeat ((with_reducible refine EW.of ?_); cbv)))
          refine ⟨Ent.of (hP ▸ Try.func18) rfl, ?_⟩
          refine TC1.call [] f18 ?_
          cbv
          (repeat (first | exact trivial | refine And.intro (Emb.Pur _ _) ?_ | refine And.intro rfl ?_ | refine And.intro (Pur.mk rfl) ?_))
          ((try cbv) <;> (repeat ((with_reducible refine EW.of ?_); cbv)))
          refine ⟨Ent.of (hP ▸ Try.func29) rfl, ?_⟩
          refine TC1.call [0] f29 ?_
          cbv
          (repeat (first | exact trivial | refine And.intro (Emb.Pur _ _) ?_ | refine And.intro rfl ?_ | refine And.intro (Pur.mk rfl) ?_))
          ((try cbv) <;> (repeat ((with_reducible refine EW.of ?_); cbv)))
          refine ⟨Ent.of (hP ▸ Try.func34) rfl, ?_⟩
          refine TC1.call [0] f34 ?_
          cbv
          (repeat (first | exact trivial | refine And.intro (Emb.Pur _ _) ?_ | refine And.intro rfl ?_ | refine And.intro (Pur.mk rfl) ?_))
          ((try cbv) <;> (repeat ((with_reducible refine EW.of ?_); cbv)))
          (refine TW.draw (A := A) (T0_ok hP) (hP ▸ follows_mixed) (by kernel_rfl) rfl ?_; cbv)
          refine bsplit (fun hfe => ?_) (fun hfe => ?_)
          · have f16 := f16 (eq_t hfe rfl rfl)
            cbv
            (refine ⟨Ent.of (hP ▸ Try.func16) rfl, ?_⟩; refine ⟨_, TC.pureX f16 (by cbv; (repeat (first | exact trivial | refine And.intro (Emb.Pur _ _) ?_ | refine And.intro rfl ?_ | refine And.intro (Pur.mk rfl) ?_ | refine And.intro (Pur.mk (by assumption)) ?_))), ?_⟩; cbv)
            refine ⟨cs, B.bytes cs, ?_⟩
            cbv
            refine ⟨cs, B.bytes cs, ?_⟩
            cbv
            ((try cbv) <;> (repeat ((with_reducible refine EW.of ?_); cbv)))
            refine bno (show A.bnot (A.seq _ _) = false by rw [A.ok_bnot, seqT rfl]; rfl) ?_
            ((try cbv) <;> (repeat ((with_reducible refine EW.of ?_); cbv)))
            (refine ⟨Ent.of (hP ▸ Try.func9) rfl, ?_⟩; refine TC.pureE h9 ?_; cbv; (repeat (first | exact trivial | refine And.intro (Emb.Pur _ _) ?_ | refine And.intro rfl ?_ | refine And.intro (Pur.mk rfl) ?_ | refine And.intro (Pur.mk (by assumption)) ?_)); ((try cbv) <;> (repeat ((with_reducible refine EW.of ?_); cbv))))
          · cbv
            ((try cbv) <;> (repeat ((with_reducible refine EW.of ?_); cbv)))
            (refine ⟨Ent.of (hP ▸ Try.func9) rfl, ?_⟩; refine TC.pureE h9 ?_; cbv; (repeat (first | exact trivial | refine And.intro (Emb.Pur _ _) ?_ | refine And.intro rfl ?_ | refine And.intro (Pur.mk rfl) ?_ | refine And.intro (Pur.mk (by assumption)) ?_)); ((try cbv) <;> (repeat ((with_reducible refine EW.of ?_); cbv))))
    · have hee2 : a :: al = F.l.l l := hee.symm
      refine ⟨⟨by rw [hee2]; exact hsc.h⟩, 1, rfl, q5, F.l.l rl, by rw [hq5, hrll, hee2, hfl], by rw [hrv, hee2]; rfl, Nat.le_refl _, by show q5 * 104 ≤ _; omega, by omega, ?_⟩
      have hq6 := A.ok_nat q5
      have hrv2 : (0 : Nat) = 1 ∨ True := .inr trivial
      cbv
      ((try cbv) <;> (repeat ((with_reducible refine EW.of ?_); cbv)))
      refine TW.vsE [(99, .int .i64 0), (98, .int .i64 (q5 : Int)), (97, .sl 9 (F.l.l rl)), (18, .bool sm0), (17, .int .i64 e), (10, .bool false), (4, .sl 1 (B.l.l cs))] [] 151 rfl ?_
      cbv
      (repeat (first | exact trivial | refine And.intro (Emb.Pur _ _) ?_ | refine And.intro hq6 ?_ | refine And.intro (F.l.cut hq5) ?_ | refine And.intro hrv2.symm ?_ | refine And.intro hsm0.symm ?_ | refine And.intro rfl ?_))
      obtain ⟨S, hS⟩ : ∃ S : LI (Nat × Bool), S = ⟨fun x => [(99, .int .i64 x.1), (98, .int .i64 (q5 : Int)), (97, .sl 9 (F.l.l rl)), (18, .bool x.2), (17, .int .i64 e), (10, .bool false), (4, .sl 1 (B.l.l cs))], fun _ => [], fun x => x.1 ≤ rl.length ∧ (x.2 = true → l.length ≤ 60 ∧ ∀ (j' : Nat) (y : Stp), j' < x.1 → rl[j']? = some y → smallT y.sub), fun x => rl.length - x.1⟩ := ⟨_, rfl⟩
      refine TW.loopM A (T0_ok hP) S _ rfl (0, sm0) ?_ ?_ ?_
      · rw [hS]; exact ⟨Nat.zero_le _, fun h => ⟨hsm1 h, fun j' y hj _ => absurd hj (Nat.not_lt_zero _)⟩⟩
      · rw [hS]
        cbv
        (repeat (first | exact trivial | refine And.intro (Emb.Pur _ _) ?_ | refine And.intro rfl ?_ | refine And.intro (Pur.mk rfl) ?_))
      rintro ⟨j, sm⟩ hj l1 L1 e1 e2
      rw [hS] at hj e1 e2
      dsimp only at hj e1 e2
      obtain ⟨hj, hsm⟩ := hj
      subst e1 e2
      cbv
      ((try cbv) <;> (repeat ((with_reducible refine EW.of ?_); cbv)))
      refine bsplit (fun h => ?_) (fun h => ?_)
      · have h : j < q5 := lt_nt h rfl rfl
        obtain ⟨y, hy⟩ : ∃ y, rl[j]? = some y := ⟨_, List.getElem?_eq_getElem (by omega)⟩
        have hyo := hrok y (List.mem_of_getElem? hy)
        have hsp := smallT_of hyo.2
        have k36 := h36 y.sub hyo.1
        obtain ⟨op, id, par, pl, ys, ⟨yi, yk, yt, yks⟩⟩ := y
        dsimp only at k36 hsp hyo
        rw [E.node] at k36
        obtain ⟨sp, hspq⟩ : ∃ sp, sp = walkT 251 (.node yi yk yt yks) [] 1 := ⟨_, rfl⟩
        rw [← hspq] at k36 hsp
        have hspl : sp.length ≤ 251 := by rw [hspq]; exact (walkT_len 251 _ [] 1).2 (Nat.zero_le _)
        have hsl := E.spot.len sp
        clear hspq
        ((try cbv) <;> (repeat ((with_reducible refine EW.of ?_); cbv)))
        refine ⟨j, _, rfl, F.get E hy, ?_⟩
        cbv
        ((try cbv) <;> (repeat ((with_reducible refine EW.of ?_); cbv)))
        (refine ⟨Ent.of (hP ▸ Try.func36) rfl, ?_⟩; refine TC.pureE k36 ?_; cbv; (repeat (first | exact trivial | refine And.intro (Emb.Pur _ _) ?_ | refine And.intro rfl ?_ | refine And.intro (Pur.mk rfl) ?_ | refine And.intro (Pur.mk (by assumption)) ?_)); ((try cbv) <;> (repeat ((with_reducible refine EW.of ?_); cbv))))
        obtain ⟨S2, hS2⟩ : ∃ S2 : LI (Nat × Bool), S2 = ⟨fun x => [(108, .int .i64 x.1), (107, .int .i64 (A.len (E.spot.l sp))), (21, .sl 5 (E.spot.l sp)), (99, .int .i64 j), (98, .int .i64 (q5 : Int)), (97, .sl 9 (F.l.l rl)), (18, .bool x.2), (17, .int .i64 e), (10, .bool false), (4, .sl 1 (B.l.l cs))], fun _ => [], fun x => x.1 ≤ sp.length ∧ (x.2 = true → sm = true ∧ ∀ (j' : Nat) (y : Tree × Nat), j' < x.1 → sp[j']? = some y → y.2 ≤ 40 ∧ j' < 200), fun x => sp.length - x.1⟩ := ⟨_, rfl⟩
        refine TW.loopM A (T0_ok hP) S2 _ rfl (0, sm) ?_ ?_ ?_
        · rw [hS2]; exact ⟨Nat.zero_le _, fun h => ⟨h, fun j' y hj _ => absurd hj (Nat.not_lt_zero _)⟩⟩
        · rw [hS2]
          cbv
          (repeat (first | exact trivial | refine And.intro (Emb.Pur _ _) ?_ | refine And.intro rfl ?_ | refine And.intro (Pur.mk rfl) ?_))
        rintro ⟨i2, sm2⟩ hj2 l1 L1 e1 e2
        rw [hS2] at hj2 e1 e2
        dsimp only at hj2 e1 e2
        obtain ⟨hj2, hsm2⟩ := hj2
        subst e1 e2
        cbv
        ((try cbv) <;> (repeat ((with_reducible refine EW.of ?_); cbv)))
        refine bsplit (fun h2 => ?_) (fun h2 => ?_)
        · have h2 : i2 < (E.spot.l sp).length := lt_nt h2 rfl (A.ok_len _)
          obtain ⟨z, hz⟩ : ∃ z, sp[i2]? = some z := ⟨_, List.getElem?_eq_getElem (by omega)⟩
          obtain ⟨⟨zi, zk, zs, zks⟩, zd⟩ := z
          cases sm2 with
          | false =>
            ((try cbv) <;> (repeat ((with_reducible refine EW.of ?_); cbv)))
            refine LM.of (i2 + 1, false) rfl ?_ ?_ ?_
            · rw [hS2]; exact ⟨by show i2 + 1 ≤ _; omega, fun h => by cases h⟩
            · rw [hS2]; show sp.length - (i2 + 1) < sp.length - i2; omega
            · rw [hS2]; (cbv; (repeat (first | exact trivial | refine And.intro (Emb.Pur _ _) ?_ | refine And.intro rfl ?_ | refine And.intro (Pur.mk rfl) ?_ | refine And.intro (Pur.mk (by assumption)) ?_)); refine And.intro (inc_eq A (by omega)) ?_; (repeat (first | exact trivial | refine And.intro (Emb.Pur _ _) ?_ | refine And.intro rfl ?_ | refine And.intro (Pur.mk rfl) ?_ | refine And.intro (Pur.mk (by assumption)) ?_)))
          | true =>
            obtain ⟨g1, g2⟩ := hsm2 rfl
            ((try cbv) <;> (repeat ((with_reducible refine EW.of ?_); cbv)))
            refine ⟨i2, _, rfl, E.gets hz, ?_⟩
            cbv
            refine bsplit (fun h3 => ?_) (fun h3 => ?_)
            · have h3 : zd ≤ 40 := le_nt (j := 40) h3 rfl rfl
              ((try cbv) <;> (repeat ((with_reducible refine EW.of ?_); cbv)))
              refine LM.of (i2 + 1, A.lt (i2 : Int) 200) rfl ?_ ?_ ?_
              · rw [hS2]
                refine ⟨by show i2 + 1 ≤ _; omega, fun hh => ⟨g1, fun j' y hj' hy' => ?_⟩⟩
                have h4 : i2 < 200 := lt_nt (j := 200) hh rfl rfl
                by_cases hjj : j' = i2
                · subst hjj
                  rw [hz] at hy'
                  cases hy'
                  exact ⟨h3, h4⟩
                · exact g2 j' y (by have : j' < i2 + 1 := hj'; omega) hy'
              · rw [hS2]; show sp.length - (i2 + 1) < sp.length - i2; omega
              · rw [hS2]; (cbv; (repeat (first | exact trivial | refine And.intro (Emb.Pur _ _) ?_ | refine And.intro rfl ?_ | refine And.intro (Pur.mk rfl) ?_ | refine And.intro (Pur.mk (by assumption)) ?_)); refine And.intro (inc_eq A (by omega)) ?_; (repeat (first | exact trivial | refine And.intro (Emb.Pur _ _) ?_ | refine And.intro rfl ?_ | refine And.intro (Pur.mk rfl) ?_ | refine And.intro (Pur.mk (by assumption)) ?_)))
            · cbv
              ((try cbv) <;> (repeat ((with_reducible refine EW.of ?_); cbv)))
              refine LM.of (i2 + 1, false) rfl ?_ ?_ ?_
              · rw [hS2]; exact ⟨by show i2 + 1 ≤ _; omega, fun h => by cases h⟩
              · rw [hS2]; show sp.length - (i2 + 1) < sp.length - i2; omega
              · rw [hS2]; (cbv; (repeat (first | exact trivial | refine And.intro (Emb.Pur _ _) ?_ | refine And.intro rfl ?_ | refine And.intro (Pur.mk rfl) ?_ | refine And.intro (Pur.mk (by assumption)) ?_)); refine And.intro (inc_eq A (by omega)) ?_; (repeat (first | exact trivial | refine And.intro (Emb.Pur _ _) ?_ | refine And.intro rfl ?_ | refine And.intro (Pur.mk rfl) ?_ | refine And.intro (Pur.mk (by assumption)) ?_)))
        · have h2 : (E.spot.l sp).length ≤ i2 := lt_nf h2 rfl (A.ok_len _)
          ((try cbv) <;> (repeat ((with_reducible refine EW.of ?_); cbv)))
          refine LM.of (j + 1, sm2) rfl ?_ ?_ ?_
          · rw [hS]
            refine ⟨by show j + 1 ≤ _; omega, fun hh => ?_⟩
            obtain ⟨g1, g2⟩ := hsm2 hh
            obtain ⟨g3, g4⟩ := hsm g1
            refine ⟨g3, fun j' y hj' hy' => ?_⟩
            by_cases hjj : j' = j
            · subst hjj
              rw [hy] at hy'
              cases hy'
              exact hsp fun j3 x3 hx3 => g2 j3 x3 (by have := (List.getElem?_eq_some_iff.1 hx3).1; omega) hx3
            · exact g4 j' y (by have : j' < j + 1 := hj'; omega) hy'
          · rw [hS]; show rl.length - (j + 1) < rl.length - j; omega
          · rw [hS]; (cbv; (repeat (first | exact trivial | refine And.intro (Emb.Pur _ _) ?_ | refine And.intro rfl ?_ | refine And.intro (Pur.mk rfl) ?_ | refine And.intro (Pur.mk (by assumption)) ?_)); refine And.intro (inc_eq A (by omega)) ?_; (repeat (first | exact trivial | refine And.intro (Emb.Pur _ _) ?_ | refine And.intro rfl ?_ | refine And.intro (Pur.mk rfl) ?_ | refine And.intro (Pur.mk (by assumption)) ?_)))
      · have h : q5 ≤ j := lt_nf h rfl rfl
        have hfin : sm = true → e = 0 := fun hh => hlast (fun x hx => by
          obtain ⟨j', hj'⟩ := List.mem_iff_getElem?.1 hx
          exact (hsm hh).2 j' x (by have := (List.getElem?_eq_some_iff.1 hj').1; omega) hj') (hsm hh).1
        ((try cbv) <;> (repeat ((with_reducible refine EW.of ?_); cbv)))
        cases sm with
        | true =>
          have hfe := hfin rfl
          ((try cbv) <;> (repeat ((with_reducible refine EW.of ?_); cbv)))
          refine bno (neF hfe) ?_
          ((try cbv) <;> (repeat ((with_reducible refine EW.of ?_); cbv)))
          refine ⟨Ent.of (hP ▸ Try.func18) rfl, ?_⟩
          refine TC1.call [] f18 ?_
          cbv
          (repeat (first | exact trivial | refine And.intro (Emb.Pur _ _) ?_ | refine And.intro rfl ?_ | refine And.intro (Pur.mk rfl) ?_))
          ((try cbv) <;> (repeat ((with_reducible refine EW.of ?_); cbv)))
          refine ⟨Ent.of (hP ▸ Try.func29) rfl, ?_⟩
          refine TC1.call [0] f29 ?_
          cbv
          (repeat (first | exact trivial | refine And.intro (Emb.Pur _ _) ?_ | refine And.intro rfl ?_ | refine And.intro (Pur.mk rfl) ?_))
          ((try cbv) <;> (repeat ((with_reducible refine EW.of ?_); cbv)))
          refine ⟨Ent.of (hP ▸ Try.func34) rfl, ?_⟩
          refine TC1.call [0] f34 ?_
          cbv
          (repeat (first | exact trivial | refine And.intro (Emb.Pur _ _) ?_ | refine And.intro rfl ?_ | refine And.intro (Pur.mk rfl) ?_))
          ((try cbv) <;> (repeat ((with_reducible refine EW.of ?_); cbv)))
          (refine TW.draw (A := A) (T0_ok hP) (hP ▸ follows_mixed) (by kernel_rfl) rfl ?_; cbv)
          refine bsplit (fun hfe => ?_) (fun hfe => ?_)
          · have f16 := f16 (eq_t hfe rfl rfl)
            cbv
            (refine ⟨Ent.of (hP ▸ Try.func16) rfl, ?_⟩; refine ⟨_, TC.pureX f16 (by cbv; (repeat (first | exact trivial | refine And.intro (Emb.Pur _ _) ?_ | refine And.intro rfl ?_ | refine And.intro (Pur.mk rfl) ?_ | refine And.intro (Pur.mk (by assumption)) ?_))), ?_⟩; cbv)
            refine ⟨cs, B.bytes cs, ?_⟩
            cbv
            refine ⟨cs, B.bytes cs, ?_⟩
            cbv
            ((try cbv) <;> (repeat ((with_reducible refine EW.of ?_); cbv)))
            refine bno (show A.bnot (A.seq _ _) = false by rw [A.ok_bnot, seqT rfl]; rfl) ?_
            ((try cbv) <;> (repeat ((with_reducible refine EW.of ?_); cbv)))
            (refine ⟨Ent.of (hP ▸ Try.func9) rfl, ?_⟩; refine TC.pureE h9 ?_; cbv; (repeat (first | exact trivial | refine And.intro (Emb.Pur _ _) ?_ | refine And.intro rfl ?_ | refine And.intro (Pur.mk rfl) ?_ | refine And.intro (Pur.mk (by assumption)) ?_)); ((try cbv) <;> (repeat ((with_reducible refine EW.of ?_); cbv))))
          · cbv
            ((try cbv) <;> (repeat ((with_reducible refine EW.of ?_); cbv)))
            (refine ⟨Ent.of (hP ▸ Try.func9) rfl, ?_⟩; refine TC.pureE h9 ?_; cbv; (repeat (first | exact trivial | refine And.intro (Emb.Pur _ _) ?_ | refine And.intro rfl ?_ | refine And.intro (Pur.mk rfl) ?_ | refine And.intro (Pur.mk (by assumption)) ?_)); ((try cbv) <;> (repeat ((with_reducible refine EW.of ?_); cbv))))
        | false =>
          ((try cbv) <;> (repeat ((with_reducible refine EW.of ?_); cbv)))
          refine ⟨Ent.of (hP ▸ Try.func18) rfl, ?_⟩
          refine TC1.call [] f18 ?_
          cbv
          (repeat (first | exact trivial | refine And.intro (Emb.Pur _ _) ?_ | refine And.intro rfl ?_ | refine And.intro (Pur.mk rfl) ?_))
          ((try cbv) <;> (repeat ((with_reducible refine EW.of ?_); cbv)))
          refine ⟨Ent.of (hP ▸ Try.func29) rfl, ?_⟩
          refine TC1.call [0] f29 ?_
          cbv
          (repeat (first | exact trivial | refine And.intro (Emb.Pur _ _) ?_ | refine And.intro rfl ?_ | refine And.intro (Pur.mk rfl) ?_))
          ((try cbv) <;> (repeat ((with_reducible refine EW.of ?_); cbv)))
          refine ⟨Ent.of (hP ▸ Try.func34) rfl, ?_⟩
          refine TC1.call [0] f34 ?_
          cbv
          (repeat (first | exact trivial | refine And.intro (Emb.Pur _ _) ?_ | refine And.intro rfl ?_ | refine And.intro (Pur.mk rfl) ?_))
          ((try cbv) <;> (repeat ((with_reducible refine EW.of ?_); cbv)))
          (refine TW.draw (A := A) (T0_ok hP) (hP ▸ follows_mixed) (by kernel_rfl) rfl ?_; cbv)
          refine bsplit (fun hfe => ?_) (fun hfe => ?_)
          · have f16 := f16 (eq_t hfe rfl rfl)
            cbv
            (refine ⟨Ent.of (hP ▸ Try.func16) rfl, ?_⟩; refine ⟨_, TC.pureX f16 (by cbv; (repeat (first | exact trivial | refine And.intro (Emb.Pur _ _) ?_ | refine And.intro rfl ?_ | refine And.intro (Pur.mk rfl) ?_ | refine And.intro (Pur.mk (by assumption)) ?_))), ?_⟩; cbv)
            refine ⟨cs, B.bytes cs, ?_⟩
            cbv
            refine ⟨cs, B.bytes cs, ?_⟩
            cbv
            ((try cbv) <;> (repeat ((with_reducible refine EW.of ?_); cbv)))
            refine bno (show A.bnot (A.seq _ _) = false by rw [A.ok_bnot, seqT rfl]; rfl) ?_
            ((try cbv) <;> (repeat ((with_reducible refine EW.of ?_); cbv)))
            (refine ⟨Ent.of (hP ▸ Try.func9) rfl, ?_⟩; refine TC.pureE h9 ?_; cbv; (repeat (first | exact trivial | refine And.intro (Emb.Pur _ _) ?_ | refine And.intro rfl ?_ | refine And.intro (Pur.mk rfl) ?_ | refine And.intro (Pur.mk (by assumption)) ?_)); ((try cbv) <;> (repeat ((with_reducible refine EW.of ?_); cbv))))
          · cbv
            ((try cbv) <;> (repeat ((with_reducible refine EW.of ?_); cbv)))
            (refine ⟨Ent.of (hP ▸ Try.func9) rfl, ?_⟩; refine TC.pureE h9 ?_; cbv; (repeat (first | exact trivial | refine And.intro (Emb.Pur _ _) ?_ | refine And.intro rfl ?_ | refine And.intro (Pur.mk rfl) ?_ | refine And.intro (Pur.mk (by assumption)) ?_)); ((try cbv) <;> (repeat ((with_reducible refine EW.of ?_); cbv))))
end Go.Proofs.Ytmbbdabcbnemiaa

/-! What a row's argument of a tree reads as. -/
namespace Go.Proofs.Ytmbbdabcbnemiaa
open Go.Proofs.Ytmbbdabcbnemiaa.Tw Go.RowKit
/-- All parts in range. -/
inductive Tree.wf : Tree → Prop
  | node {i k : Int} {s : ByteArray} {ks : List Tree} (hi : (Lit.int .i64 i).wf = true) (hk : (Lit.int .i64 k).wf = true) (hs : s.size ≤ maxLen) (h : ks.length ≤ maxLen) (hks : ∀ t ∈ ks, t.wf) : Tree.wf (.node i k s ks)
theorem opens_tree : ∀ n, Tw.Opens Try.prog 25 Tree.av Tree.wf n
  | 0 => by
    intro H enc w base spare held fuel cs x hf hx
    obtain rfl : fuel = 0 := by omega
    simp [DataW.trod] at hx
  | n + 1 => by
    have h := opens_struct (sz := 4) Try.underlying25 (by kernel_rfl) (opens_cons (c := 1) (sz := 3) rfl (by kernel_rfl) (by decide) (Tw.opens_int Try.underlying3 n) (opens_cons (c := 1) (sz := 2) rfl (by kernel_rfl) (by decide) (Tw.opens_int Try.underlying3 n) (opens_cons (c := 1) (sz := 1) rfl (by kernel_rfl) (by decide) (Tw.opens_string Try.underlying9 n) (opens_last (sz := 1) rfl (by kernel_rfl) (Tw.opens_le (Tw.opens_slice (c := 4) Try.underlying23 (by kernel_rfl) (by decide) (opens_tree n)) (Nat.le_succ n))))))
    refine Tw.opens_map Tree.av Tree.wf (fun x => .node x.1 x.2.1 x.2.2.1 x.2.2.2) (fun x => ?_) (fun x hx => ?_) h
    · simp [Tree.av, avs_map, AV.cells]
    · exact .node hx.1 hx.2.1 hx.2.2.1 hx.2.2.2.1 hx.2.2.2.2
theorem Tree.wf.ok {t : Tree} (h : t.wf) : t.ok := by
  induction h with
  | node hi hk hs h hks ih => exact .node h ih
theorem opens_ints (n : Nat) : Tw.Opens Try.prog 35 (fun l : List Int => .sl 1 (l.map em0.int.v)) (fun l => l.length ≤ maxLen) n :=
  Tw.opens_le (Tw.opens_map _ _ id (fun _ => rfl) (fun _ h => h.1) (Tw.opens_slice (c := 1) Try.underlying35 (by kernel_rfl) (by decide) (Tw.opens_int Try.underlying3 n))) (Nat.le_succ n)
end Go.Proofs.Ytmbbdabcbnemiaa

/-! What a row's argument of bytes, and of steps, reads as. -/
namespace Go.Proofs.Ytmbbdabcbnemiaa
open Go.Proofs.Ytmbbdabcbnemiaa.Tw Go.RowKit
theorem opens_mapW {α β : Type} {P : Program} {t : TypeId} {v : α → AV} {wf : α → Prop} {n : Nat} (u : β → AV) (wg : β → Prop) (g : α → β) (hg : ∀ a, wf a → u (g a) = v a) (hw : ∀ a, wf a → wg (g a)) (h : Tw.Opens P t v wf n) : Tw.Opens P t u wg n := by
  intro H enc w base spare held fuel cs x hf hx
  obtain ⟨a, ha, hwa⟩ := h H enc w base spare held fuel cs x hf hx
  exact ⟨g a, by rw [hg a hwa]; exact ha, hw a hwa⟩
theorem opens_byte (n : Nat) : Tw.Opens Try.prog 5 (fun b : UInt8 => .int .u8 b.toNat) (fun _ => True) n :=
  opens_mapW _ _ (fun i : Int => UInt8.ofNat i.toNat) (fun i hi => by
    have h : 0 ≤ i ∧ i < 256 := by
      simp [Lit.wf] at hi
      exact ⟨hi.1, by have h2 : i ≤ 255 := hi.2; omega⟩
    show AV.int .u8 ((UInt8.ofNat i.toNat).toNat : Int) = _
    rw [byte_ofInt h]) (fun _ _ => trivial) (Tw.opens_int Try.underlying5 n)
theorem opens_bytes (n : Nat) : Tw.Opens Try.prog 22 (fun l : List UInt8 => .sl 1 (l.map fun b => .int .u8 b.toNat)) (fun l => l.length ≤ maxLen) n :=
  Tw.opens_le (Tw.opens_map _ _ id (fun _ => rfl) (fun _ h => h.1) (Tw.opens_slice (c := 1) Try.underlying22 (by kernel_rfl) (by decide) (opens_byte n))) (Nat.le_succ n)
theorem opens_step : ∀ n, Tw.Opens Try.prog 55 Stp.av (fun x => x.sub.wf) n
  | 0 => by
    intro H enc w base spare held fuel cs x hf hx
    obtain rfl : fuel = 0 := by omega
    simp [DataW.trod] at hx
  | n + 1 => by
    have h := opens_struct (sz := 9) Try.underlying55 (by kernel_rfl) (opens_cons (c := 1) (sz := 8) rfl (by kernel_rfl) (by decide) (Tw.opens_int Try.underlying41 n) (opens_cons (c := 1) (sz := 7) rfl (by kernel_rfl) (by decide) (Tw.opens_int Try.underlying3 n) (opens_cons (c := 1) (sz := 6) rfl (by kernel_rfl) (by decide) (Tw.opens_int Try.underlying3 n) (opens_cons (c := 1) (sz := 5) rfl (by kernel_rfl) (by decide) (Tw.opens_int Try.underlying3 n) (opens_cons (c := 1) (sz := 4) rfl (by kernel_rfl) (by decide) (Tw.opens_string Try.underlying9 n) (opens_last (sz := 4) rfl (by kernel_rfl) (opens_tree n)))))))
    refine Tw.opens_map Stp.av (fun x => x.sub.wf) (fun x => ⟨x.1, x.2.1, x.2.2.1, x.2.2.2.1, x.2.2.2.2.1, x.2.2.2.2.2⟩) (fun x => ?_) (fun x hx => hx.2.2.2.2.2) h
    obtain ⟨a, b, c, d, e, ⟨i, k, s, ks⟩⟩ := x
    simp [Stp.av, Tree.av, AV.cells]
theorem opens_steps (n : Nat) : Tw.Opens Try.prog 26 (fun l : List Stp => .sl 9 (l.map Stp.av)) (fun l => l.length ≤ maxLen ∧ ∀ x ∈ l, x.sub.wf) n :=
  Tw.opens_le (Tw.opens_map _ _ id (fun _ => rfl) (fun _ h => h) (Tw.opens_slice (c := 9) Try.underlying26 (by kernel_rfl) (by decide) (opens_step n))) (Nat.le_succ n)
end Go.Proofs.Ytmbbdabcbnemiaa

/-! What a row's steps read as, all of it. -/
namespace Go.Proofs.Ytmbbdabcbnemiaa
open Go.Proofs.Ytmbbdabcbnemiaa.Tw Go.RowKit
theorem wf_i64 {n : Int} (h : (Lit.int .i64 n).wf = true) : -9223372036854775808 ≤ n ∧ n ≤ 9223372036854775807 := by
  simp [Lit.wf] at h
  exact ⟨h.1, by have h2 : n ≤ 9223372036854775807 := h.2; omega⟩
theorem wf_i8 {n : Int} (h : (Lit.int .i8 n).wf = true) : -128 ≤ n ∧ n ≤ 127 := by
  simp [Lit.wf] at h
  exact ⟨h.1, by have h2 : n ≤ 127 := h.2; omega⟩
theorem Tree.wf.nums {t : Tree} (h : t.wf) : t.nums := by
  induction h with
  | node hi hk hs h hks ih => exact .node (wf_i64 hi) (wf_i64 hk) ih
theorem opens_stepN : ∀ n, Tw.Opens Try.prog 55 Stp.av (fun x => x.nums ∧ x.sub.wf) n
  | 0 => by
    intro H enc w base spare held fuel cs x hf hx
    obtain rfl : fuel = 0 := by omega
    simp [DataW.trod] at hx
  | n + 1 => by
    have h := opens_struct (sz := 9) Try.underlying55 (by kernel_rfl) (opens_cons (c := 1) (sz := 8) rfl (by kernel_rfl) (by decide) (Tw.opens_int Try.underlying41 n) (opens_cons (c := 1) (sz := 7) rfl (by kernel_rfl) (by decide) (Tw.opens_int Try.underlying3 n) (opens_cons (c := 1) (sz := 6) rfl (by kernel_rfl) (by decide) (Tw.opens_int Try.underlying3 n) (opens_cons (c := 1) (sz := 5) rfl (by kernel_rfl) (by decide) (Tw.opens_int Try.underlying3 n) (opens_cons (c := 1) (sz := 4) rfl (by kernel_rfl) (by decide) (Tw.opens_string Try.underlying9 n) (opens_last (sz := 4) rfl (by kernel_rfl) (opens_tree n)))))))
    refine Tw.opens_map Stp.av (fun x => x.nums ∧ x.sub.wf) (fun x => ⟨x.1, x.2.1, x.2.2.1, x.2.2.2.1, x.2.2.2.2.1, x.2.2.2.2.2⟩) (fun x => ?_) (fun x hx => ⟨⟨wf_i8 hx.1, wf_i64 hx.2.1, wf_i64 hx.2.2.1, wf_i64 hx.2.2.2.1, hx.2.2.2.2.2.nums⟩, hx.2.2.2.2.2⟩) h
    obtain ⟨a, b, c, d, e, ⟨i, k, s, ks⟩⟩ := x
    simp [Stp.av, Tree.av, AV.cells]
theorem opens_stepsN (n : Nat) : Tw.Opens Try.prog 26 (fun l : List Stp => .sl 9 (l.map Stp.av)) (fun l => l.length ≤ maxLen ∧ ∀ x ∈ l, x.nums ∧ x.sub.wf) n :=
  Tw.opens_le (Tw.opens_map _ _ id (fun _ => rfl) (fun _ h => h) (Tw.opens_slice (c := 9) Try.underlying26 (by kernel_rfl) (by decide) (opens_stepN n))) (Nat.le_succ n)
end Go.Proofs.Ytmbbdabcbnemiaa
