import Derived.Test.YtaieiigfheabfaaYq
import Derived.Test.YtaieiigfheabfaaYe
/-! great; the law NormalPairs. -/
namespace Go.Proofs.Ytaieiigfheabfaa
open Go.Proofs.Ytaieiigfheabfaa.Tw
def big (x : Stp) : Bool := decide (200 < (walkT 201 x.sub [] 1).length)
def greatL (l : List Stp) : Bool := decide (60 < l.length) || l.any big
theorem within_ok : ∀ {n : Nat} {t : Tree}, within n t → t.ok
  | 0, _, h => h.elim
  | n + 1, .node i k s ks, h => .node (by have := h.1; omega) fun t ht => within_ok (h.2 t ht)
theorem greatL_within {l : List Stp} (h : greatL l = false) : l.length ≤ 60 ∧ ∀ x ∈ l, within 201 x.sub := by
  unfold greatL at h
  simp only [Bool.or_eq_false_iff, decide_eq_false_iff_not] at h
  refine ⟨by omega, fun x hx => ?_⟩
  have := List.any_eq_false.1 h.2 x hx
  simp only [big, decide_eq_true_eq] at this
  exact walk_within (by decide) (by omega)
set_option maxHeartbeats 1000000 in
theorem great8 (A : Ar) (E : Em) (F : EmS) {P : Program} (hP : P = Try.prog) (l : List Stp) (hok : ∀ x ∈ l, x.sub.ok) : TPure P 8 [.sl 9 (F.l.l l)] (.bool (greatL l)) := by
  have hll := F.l.len l
  have hlk : A.len (F.l.l l) = (l.length : Int) := by rw [A.ok_len, hll]
  obtain ⟨r, hr⟩ : ∃ r, r = greatL l := ⟨_, rfl⟩
  rw [← hr]
  refine TPure.ofE A T0 (T0_ok hP) (hP ▸ Try.func8) rfl _ rfl (by simp) ?_
  cbv
  ((try cbv) <;> (repeat ((with_reducible refine EW.of ?_); cbv)))
  refine bsplit (fun h => ?_) (fun h => ?_)
  · have h : 60 < l.length := lt_nt (i := 60) h rfl hlk
    replace hr : r = true := by rw [hr, greatL, decide_eq_true h, Bool.true_or]
    subst hr
    ((try cbv) <;> (repeat ((with_reducible refine EW.of ?_); cbv)))
  have h60 : l.length ≤ 60 := lt_nf (i := 60) h rfl hlk
  replace hr : r = l.any big := by rw [hr, greatL, decide_eq_false (by omega), Bool.false_or]
  ((try cbv) <;> (repeat ((with_reducible refine EW.of ?_); cbv)))
  obtain ⟨S, hS⟩ : ∃ S : LI Nat, S = ⟨fun j => [(3, .int .i64 j), (0, .sl 9 (F.l.l l))], fun _ => [], fun j => j ≤ l.length ∧ (l.take j).any big = false, fun j => l.length - j⟩ := ⟨_, rfl⟩
  refine TW.loopM A (T0_ok hP) S _ rfl 0 ?_ ?_ ?_
  · rw [hS]; exact ⟨Nat.zero_le _, rfl⟩
  · rw [hS]; cbv; (repeat (first | exact trivial | refine And.intro (Emb.Pur _ _) ?_ | refine And.intro rfl ?_ | refine And.intro (Pur.mk rfl) ?_ | refine And.intro (Pur.mk (by assumption)) ?_))
  intro j hj l1 L1 e1 e2; rw [hS] at hj e1 e2; dsimp only at hj e1 e2; obtain ⟨hj, hno⟩ := hj; subst e1 e2
  cbv
  ((try cbv) <;> (repeat ((with_reducible refine EW.of ?_); cbv)))
  refine bsplit (fun h => ?_) (fun h => ?_)
  · have h : j < l.length := lt_nt h rfl hlk
    obtain ⟨x, hx⟩ : ∃ x, l[j]? = some x := ⟨_, List.getElem?_eq_getElem h⟩
    have h23 := Walk23 A hP 201 (by decide) (by decide) x.sub (hok x (List.mem_of_getElem? hx))
    have hbx : big x = decide (200 < (walkT 201 x.sub [] 1).length) := rfl
    have hmem := List.mem_of_getElem? hx
    have htk : (l.take (j + 1)).any big = big x := by rw [List.take_add_one, hx, List.any_append, hno]; simp
    have hget := F.l.get hx
    generalize walkT 201 x.sub [] 1 = sp at h23 hbx
    simp only [E.av, E.spots] at h23
    have hsl := E.spot.len sp
    obtain ⟨gb, hgb⟩ : ∃ b, b = big x := ⟨_, rfl⟩
    rw [← hgb] at hbx htk
    have hany : gb = true → r = true := fun e => by rw [hr]; exact List.any_eq_true.2 ⟨x, hmem, by rw [← hgb, e]⟩
    obtain ⟨op1, id1, par1, pl1, tx1, ⟨i1, k1, s1, ks1⟩⟩ := x
    dsimp only at h23
    rw [F.v E] at hget
    rw [E.node] at h23
    ((try cbv) <;> (repeat ((with_reducible refine EW.of ?_); cbv)))
    (refine ⟨_, _, rfl, hget, ?_⟩; cbv; ((try cbv) <;> (repeat ((with_reducible refine EW.of ?_); cbv))))
    (refine ⟨Ent.of (hP ▸ Try.func15) rfl, ?_⟩; refine TC.pureE h23 ?_; cbv; (repeat (first | exact trivial | refine And.intro (Emb.Pur _ _) ?_ | refine And.intro rfl ?_ | refine And.intro (Pur.mk rfl) ?_ | refine And.intro (Pur.mk (by assumption)) ?_)); ((try cbv) <;> (repeat ((with_reducible refine EW.of ?_); cbv))))
    refine bsplit (fun h2 => ?_) (fun h2 => ?_)
    · have h2 : 200 < (E.spot.l sp).length := lt_nt (i := 200) h2 rfl (A.ok_len _)
      have e := hany (by rw [hbx]; exact decide_eq_true (by omega))
      subst e
      ((try cbv) <;> (repeat ((with_reducible refine EW.of ?_); cbv)))
    · have h2 : (E.spot.l sp).length ≤ 200 := lt_nf (i := 200) h2 rfl (A.ok_len _)
      ((try cbv) <;> (repeat ((with_reducible refine EW.of ?_); cbv)))
      refine LM.of (j + 1) rfl ?_ ?_ ?_
      · rw [hS]; exact ⟨h, by rw [htk, hbx]; exact decide_eq_false (by omega)⟩
      · rw [hS]; show l.length - (j + 1) < l.length - j; omega
      · rw [hS]; (cbv; (repeat (first | exact trivial | refine And.intro (Emb.Pur _ _) ?_ | refine And.intro rfl ?_ | refine And.intro (Pur.mk rfl) ?_ | refine And.intro (Pur.mk (by assumption)) ?_)); refine And.intro (inc_eq A (by omega)) ?_; (repeat (first | exact trivial | refine And.intro (Emb.Pur _ _) ?_ | refine And.intro rfl ?_ | refine And.intro (Pur.mk rfl) ?_ | refine And.intro (Pur.mk (by assumption)) ?_)))
  · have h : l.length ≤ j := lt_nf h rfl hlk
    rw [List.take_of_length_le h, ← hr] at hno
    subst hno
    ((try cbv) <;> (repeat ((with_reducible refine EW.of ?_); cbv)))
set_option maxHeartbeats 1000000 in
theorem lawPairs (A : Ar) (E : Em) (F : EmS) {P : Program} (hP : P = Try.prog) (a b : Stp) (ha : a.sub.ok) (hb : b.sub.ok) : TPure P 3 [F.l.v a, F.l.v b] (.bool true) := by
  have h8 := great8 A E F hP [a, b] (fun x hx => by simp at hx; rcases hx with rfl | rfl <;> assumption)
  have h9 := wakes9 A E F hP
  have hgw := @greatL_within [a, b]
  have hp := fun h1 h2 => Pair10 A E F hP 200 a b h1 h2
  have hq := fun h1 h2 => Pair11 A E F hP 200 a b h1 h2
  have hlen := pairF_len a b
  have hwi := fun h1 h2 x h => pairF_within (n := 201) (a := a) (b := b) h1 h2 (x := x) h
  generalize greatL [a, b] = g at h8 hgw
  obtain ⟨o, ho⟩ : ∃ o, o = pairF a b := ⟨_, rfl⟩
  rw [← ho] at hp hq hlen hwi
  clear ho
  obtain ⟨os, hos⟩ : ∃ b, b = o.isSome := ⟨_, rfl⟩
  obtain ⟨x, hx⟩ : ∃ x, x = o.getD [] := ⟨_, rfl⟩
  rw [← hx, ← hos] at hp hq
  have hxl : x.length ≤ 1 := by
    rw [hx]
    cases o with
    | none => simp
    | some y => rcases hlen y rfl with rfl | ⟨z, rfl⟩ <;> simp
  have hxw : within 201 a.sub → within 201 b.sub → ∀ y ∈ x, y.sub.ok := fun h1 h2 y hy => by
    rw [hx] at hy
    cases o with
    | none => simp at hy
    | some z => exact within_ok (hwi h1 h2 z rfl y hy)
  have hss := fun h1 h2 => SameSteps31 A E F hP x x (hxw h1 h2) (by omega)
  rw [sameL_refl] at hss
  clear hx hos hlen hwi
  have ga : g = false → within 201 a.sub := fun e => (hgw e).2 a (by simp)
  have gb : g = false → within 201 b.sub := fun e => (hgw e).2 b (by simp)
  clear hgw
  obtain ⟨op1, id1, par1, pl1, tx1, ⟨i1, k1, s1, ks1⟩⟩ := a
  obtain ⟨op2, id2, par2, pl2, tx2, ⟨i2, k2, s2, ks2⟩⟩ := b
  rw [F.l.cons, F.l.cons, F.l.nil] at h8
  rw [F.v E, F.v E] at h8 hp hq ⊢
  have pab : Tw.Pur [.agg [.int .i8 op1, .int .i64 id1, .int .i64 par1, .int .i64 pl1, .str tx1, .int .i64 i1, .int .i64 k1, .str s1, .sl 4 (E.tree.l ks1)], .agg [.int .i8 op2, .int .i64 id2, .int .i64 par2, .int .i64 pl2, .str tx2, .int .i64 i2, .int .i64 k2, .str s2, .sl 4 (E.tree.l ks2)]] := Pur.mk (by (repeat (first | exact rfl | exact Emb.purL _ _ | assumption | apply pur_cons | apply pur_sl | apply pur_slt | apply pur_agg | apply pur_tup)))
  refine TPure.ofE A T0 (T0_ok hP) (hP ▸ Try.func3) rfl _ rfl (by simp) ?_
  cbv
  ((try cbv) <;> (repeat ((with_reducible refine EW.of ?_); cbv)))
  (refine ⟨Ent.of (hP ▸ Try.func8) rfl, ?_⟩; refine TC.pureE h8 ?_; cbv; (repeat (first | exact trivial | refine And.intro (Emb.Pur _ _) ?_ | refine And.intro rfl ?_ | refine And.intro (Pur.mk rfl) ?_ | refine And.intro (Pur.mk (by assumption)) ?_)); ((try cbv) <;> (repeat ((with_reducible refine EW.of ?_); cbv))))
  refine And.intro pab ?_
  cases g with
  | true =>
    ((try cbv) <;> (repeat ((with_reducible refine EW.of ?_); cbv)))
    (refine ⟨Ent.of (hP ▸ Try.func9) rfl, ?_⟩; refine TC.pureE h9 ?_; cbv; (repeat (first | exact trivial | refine And.intro (Emb.Pur _ _) ?_ | refine And.intro rfl ?_ | refine And.intro (Pur.mk rfl) ?_ | refine And.intro (Pur.mk (by assumption)) ?_)); ((try cbv) <;> (repeat ((with_reducible refine EW.of ?_); cbv))))
  | false =>
    replace hp := hp (ga rfl) (gb rfl)
    replace hq := hq (ga rfl) (gb rfl)
    replace hss := hss (ga rfl) (gb rfl)
    ((try cbv) <;> (repeat ((with_reducible refine EW.of ?_); cbv)))
    (refine ⟨Ent.of (hP ▸ Try.func10) rfl, ?_⟩; refine TC.pureE hp ?_; cbv; (repeat (first | exact trivial | refine And.intro (Emb.Pur _ _) ?_ | refine And.intro rfl ?_ | refine And.intro (Pur.mk rfl) ?_ | refine And.intro (Pur.mk (by assumption)) ?_)); ((try cbv) <;> (repeat ((with_reducible refine EW.of ?_); cbv))))
    (refine ⟨Ent.of (hP ▸ Try.func11) rfl, ?_⟩; refine TC.pureE hq ?_; cbv; (repeat (first | exact trivial | refine And.intro (Emb.Pur _ _) ?_ | refine And.intro rfl ?_ | refine And.intro (Pur.mk rfl) ?_ | refine And.intro (Pur.mk (by assumption)) ?_)); ((try cbv) <;> (repeat ((with_reducible refine EW.of ?_); cbv))))
    (first | refine byes (eqT rfl) ?_ | refine byes (beqT rfl) ?_)
    ((try cbv) <;> (repeat ((with_reducible refine EW.of ?_); cbv)))
    (refine ⟨Ent.of (hP ▸ Try.func12) rfl, ?_⟩; refine TC.pureE hss ?_; cbv; (repeat (first | exact trivial | refine And.intro (Emb.Pur _ _) ?_ | refine And.intro rfl ?_ | refine And.intro (Pur.mk rfl) ?_ | refine And.intro (Pur.mk (by assumption)) ?_)); ((try cbv) <;> (repeat ((with_reducible refine EW.of ?_); cbv))))
    (refine ⟨Ent.of (hP ▸ Try.func9) rfl, ?_⟩; refine TC.pureE h9 ?_; cbv; (repeat (first | exact trivial | refine And.intro (Emb.Pur _ _) ?_ | refine And.intro rfl ?_ | refine And.intro (Pur.mk rfl) ?_ | refine And.intro (Pur.mk (by assumption)) ?_)); ((try cbv) <;> (repeat ((with_reducible refine EW.of ?_); cbv))))
theorem onceF_stop : ∀ {l : List Stp}, onceF l = none → ∀ i, missL l i
  | [], _, i => fun k a b hk ha hb => by simp at ha
  | [c], _, i => fun k a b hk ha hb => by
    have := (List.getElem?_eq_some_iff.1 hb).1
    simp at this
  | c :: d :: l, h, i => fun k a b hk ha hb => by
    rw [onceF] at h
    cases hp : pairF c d with
    | some x => rw [hp] at h; cases h
    | none =>
      rw [hp] at h
      have h2 : onceF (d :: l) = none := by
        cases ho : onceF (d :: l) with
        | none => rfl
        | some z => rw [ho] at h; cases h
      cases k with
      | zero =>
        obtain rfl : c = a := by simpa using ha
        obtain rfl : d = b := by simpa using hb
        exact hp
      | succ k => exact onceF_stop h2 (k + 1) k a b (by omega) (by simpa using ha) (by simpa using hb)
theorem nfN_stop : ∀ (n : Nat) (l : List Stp), l.length ≤ n → (onceR (nfN n l)).2 = false
  | 0, l, h => by
    have : l = [] := List.eq_nil_of_length_eq_zero (by omega)
    subst this
    rfl
  | n + 1, l, h => by
    rw [nfN]
    by_cases ho : (onceR l).2 = true
    · rw [if_pos ho]
      have := (onceR_len (l := l)).2 ho
      exact nfN_stop n _ (by omega)
    · rw [if_neg ho]; simpa using ho
theorem nfN_len : ∀ (n : Nat) (l : List Stp), (nfN n l).length ≤ l.length
  | 0, l => Nat.le_refl _
  | n + 1, l => by
    rw [nfN]
    by_cases ho : (onceR l).2 = true
    · rw [if_pos ho]
      have := (onceR_len (l := l)).2 ho
      have := nfN_len n (onceR l).1
      omega
    · rw [if_neg ho]; exact Nat.le_refl _
theorem nfN_within {m : Nat} : ∀ (n : Nat) (l : List Stp), (∀ x ∈ l, within m x.sub) → ∀ x ∈ nfN n l, within m x.sub
  | 0, l, h => h
  | n + 1, l, h => by
    rw [nfN]
    by_cases ho : (onceR l).2 = true
    · rw [if_pos ho]
      exact nfN_within n _ (onceR_within h)
    · rw [if_neg ho]; exact h
theorem onceR_none {l : List Stp} (h : (onceR l).2 = false) : onceF l = none := by
  unfold onceR at h
  cases ho : onceF l with
  | none => rfl
  | some x => rw [ho] at h; cases h
theorem same_once (l : List Stp) : sameL (nf l) l = !(onceR l).2 := by
  by_cases h : (onceR l).2 = true
  · rw [h, nf_step h]
    have h1 := (onceR_len (l := l)).2 h
    have h2 := nfN_len (onceR l).1.length (onceR l).1
    exact sameL_len (by unfold nf; omega)
  · have h : (onceR l).2 = false := by simpa using h
    rw [h, nf_stop h]
    exact sameL_refl l
set_option maxHeartbeats 2000000 in
theorem lawAgain (A : Ar) (E : Em) (F : EmS) {P : Program} (hP : P = Try.prog) (l : List Stp) (hok : ∀ x ∈ l, x.sub.ok) : TPure P 4 [.sl 9 (F.l.l l)] (.bool true) := by
  have h8 := great8 A E F hP l hok
  have h9 := wakes9 A E F hP
  have hgw := @greatL_within l
  have hO := fun h1 h2 => Of13 A E F hP 200 l h1 h2
  have hI := fun h1 h2 => Is14 A E F hP 200 l h1 h2
  have hfl := nfN_len l.length l
  have hfs := nfN_stop l.length l (Nat.le_refl _)
  have hfw := fun h => nfN_within (m := 201) l.length l h
  have hsm := same_once l
  replace hfl : (nf l).length ≤ l.length := hfl
  replace hfs : (onceR (nf l)).2 = false := hfs
  replace hfw : (∀ x ∈ l, within 201 x.sub) → ∀ x ∈ nf l, within 201 x.sub := hfw
  obtain ⟨f, hf⟩ : ∃ f, f = nf l := ⟨_, rfl⟩
  rw [← hf] at hO hfl hfs hfw hsm
  have hff := nf_stop hfs
  have hO2 := fun h1 h2 => Of13 A E F hP 200 f h1 h2
  have hI2 := fun h1 h2 => Is14 A E F hP 200 f h1 h2
  have hms := onceF_stop (onceR_none hfs)
  rw [hff] at hO2
  rw [hfs] at hI2
  have hs1 := fun h => SameSteps31 A E F hP f f h
  have hs2 := fun h => SameSteps31 A E F hP f l h
  rw [sameL_refl] at hs1
  rw [hsm] at hs2
  have hP0 := fun (j : Nat) (a b : Stp) (h1 : within 201 a.sub) (h2 : within 201 b.sub) => Pair10 A E F hP 200 a b h1 h2
  generalize (onceR l).2 = ob at hI hs2
  clear hsm hff hfs hf
  generalize greatL l = g at h8 hgw
  have hll := F.l.len l
  have hlf := F.l.len f
  have hkl : A.len (F.l.l l) = (l.length : Int) := by rw [A.ok_len, hll]
  have hkf : A.len (F.l.l f) = (f.length : Int) := by rw [A.ok_len, hlf]
  have hle : A.le (A.len (F.l.l f)) (A.len (F.l.l l)) = true := by rw [hkl, hkf, A.ok_le]; exact decide_eq_true (by omega)
  refine TPure.ofE A T0 (T0_ok hP) (hP ▸ Try.func4) rfl _ rfl (by simp) ?_
  cbv
  ((try cbv) <;> (repeat ((with_reducible refine EW.of ?_); cbv)))
  (refine ⟨Ent.of (hP ▸ Try.func8) rfl, ?_⟩; refine TC.pureE h8 ?_; cbv; (repeat (first | exact trivial | refine And.intro (Emb.Pur _ _) ?_ | refine And.intro rfl ?_ | refine And.intro (Pur.mk rfl) ?_ | refine And.intro (Pur.mk (by assumption)) ?_)); ((try cbv) <;> (repeat ((with_reducible refine EW.of ?_); cbv))))
  cases g with
  | true =>
    ((try cbv) <;> (repeat ((with_reducible refine EW.of ?_); cbv)))
    (refine ⟨Ent.of (hP ▸ Try.func9) rfl, ?_⟩; refine TC.pureE h9 ?_; cbv; (repeat (first | exact trivial | refine And.intro (Emb.Pur _ _) ?_ | refine And.intro rfl ?_ | refine And.intro (Pur.mk rfl) ?_ | refine And.intro (Pur.mk (by assumption)) ?_)); ((try cbv) <;> (repeat ((with_reducible refine EW.of ?_); cbv))))
  | false =>
    obtain ⟨h60, hwl⟩ := hgw rfl
    have hwf := hfw hwl
    have hokf : ∀ x ∈ f, x.sub.ok := fun x hx => within_ok (hwf x hx)
    replace hO := hO (by omega) hwl
    replace hI := hI (by omega) hwl
    replace hO2 := hO2 (by omega) hwf
    replace hI2 := hI2 (by omega) hwf
    replace hs1 := hs1 hokf (by omega)
    replace hs2 := hs2 hokf (by omega)
    ((try cbv) <;> (repeat ((with_reducible refine EW.of ?_); cbv)))
    (refine ⟨Ent.of (hP ▸ Try.func13) rfl, ?_⟩; refine TC.pureE hO ?_; cbv; (repeat (first | exact trivial | refine And.intro (Emb.Pur _ _) ?_ | refine And.intro rfl ?_ | refine And.intro (Pur.mk rfl) ?_ | refine And.intro (Pur.mk (by assumption)) ?_)); ((try cbv) <;> (repeat ((with_reducible refine EW.of ?_); cbv))))
    obtain ⟨S, hS⟩ : ∃ S : LI Nat, S = ⟨fun j => [(4, .int .i64 j), (3, .sl 9 (F.l.l f)), (0, .sl 9 (F.l.l l))], fun _ => [], fun j => j ≤ f.length, fun j => f.length - j⟩ := ⟨_, rfl⟩
    refine TW.loopM A (T0_ok hP) S _ rfl 0 ?_ ?_ ?_
    · rw [hS]; exact Nat.zero_le _
    · rw [hS]; cbv; (repeat (first | exact trivial | refine And.intro (Emb.Pur _ _) ?_ | refine And.intro rfl ?_ | refine And.intro (Pur.mk rfl) ?_ | refine And.intro (Pur.mk (by assumption)) ?_))
    intro j hj l1 L1 e1 e2
    rw [hS] at hj e1 e2
    dsimp only at hj e1 e2
    subst e1 e2
    obtain ⟨i, hi⟩ : ∃ i, i = j + 1 := ⟨_, rfl⟩
    have hadd : A.op .add .i64 (j : Int) 1 = (i : Int) := by rw [hi]; exact inc_eq A (by omega)
    cbv
    ((try cbv) <;> (repeat ((with_reducible refine EW.of ?_); cbv)))
    refine bsplit (fun h => ?_) (fun h => ?_)
    · have h : i < f.length := lt_nt h hadd hkf
      obtain ⟨a, ha⟩ : ∃ a, f[j]? = some a := ⟨_, List.getElem?_eq_getElem (by omega)⟩
      obtain ⟨b, hb⟩ : ∃ b, f[i]? = some b := ⟨_, List.getElem?_eq_getElem (by omega)⟩
      have hc := hP0 j a b (hwf a (List.mem_of_getElem? ha)) (hwf b (List.mem_of_getElem? hb))
      rw [hms i j a b (by omega) ha (by rw [← hi]; exact hb)] at hc
      simp only [Option.getD_none, Option.isSome_none, F.l.nil] at hc
      have hga := F.l.get ha
      have hgb := F.l.get hb
      obtain ⟨op1, id1, par1, pl1, tx1, ⟨i1, k1, s1, ks1⟩⟩ := a
      obtain ⟨op2, id2, par2, pl2, tx2, ⟨i2, k2, s2, ks2⟩⟩ := b
      rw [F.v E] at hga hgb
      rw [F.v E, F.v E] at hc
      ((try cbv) <;> (repeat ((with_reducible refine EW.of ?_); cbv)))
      (refine TW.draw (A := A) (T0_ok hP) (hP ▸ follows_mixed) (by kernel_rfl) rfl ?_; cbv)
      refine ⟨j, _, rfl, hga, ?_⟩
      cbv
      refine ⟨i, _, hadd, hgb, ?_⟩
      cbv
      (refine ⟨Ent.of (hP ▸ Try.func10) rfl, ?_⟩; refine ⟨_, TC.pureX hc (by cbv; (repeat (first | exact trivial | refine And.intro (Emb.Pur _ _) ?_ | refine And.intro rfl ?_ | refine And.intro (Pur.mk rfl) ?_ | refine And.intro (Pur.mk (by assumption)) ?_))), ?_⟩; cbv)
      ((try cbv) <;> (repeat ((with_reducible refine EW.of ?_); cbv)))
      refine LM.of i rfl ?_ ?_ ?_
      · rw [hS]; show i ≤ f.length; omega
      · rw [hS]; show f.length - i < f.length - j; omega
      · rw [hS]; cbv
        exact ⟨hadd, Emb.Pur _ _, Emb.Pur _ _, trivial⟩
    · ((try cbv) <;> (repeat ((with_reducible refine EW.of ?_); cbv)))
      refine byes hle ?_
      ((try cbv) <;> (repeat ((with_reducible refine EW.of ?_); cbv)))
      (refine ⟨Ent.of (hP ▸ Try.func14) rfl, ?_⟩; refine TC.pureE hI2 ?_; cbv; (repeat (first | exact trivial | refine And.intro (Emb.Pur _ _) ?_ | refine And.intro rfl ?_ | refine And.intro (Pur.mk rfl) ?_ | refine And.intro (Pur.mk (by assumption)) ?_)); ((try cbv) <;> (repeat ((with_reducible refine EW.of ?_); cbv))))
      ((try cbv) <;> (repeat ((with_reducible refine EW.of ?_); cbv)))
      (refine ⟨Ent.of (hP ▸ Try.func13) rfl, ?_⟩; refine TC.pureE hO2 ?_; cbv; (repeat (first | exact trivial | refine And.intro (Emb.Pur _ _) ?_ | refine And.intro rfl ?_ | refine And.intro (Pur.mk rfl) ?_ | refine And.intro (Pur.mk (by assumption)) ?_)); ((try cbv) <;> (repeat ((with_reducible refine EW.of ?_); cbv))))
      (refine ⟨Ent.of (hP ▸ Try.func12) rfl, ?_⟩; refine TC.pureE hs1 ?_; cbv; (repeat (first | exact trivial | refine And.intro (Emb.Pur _ _) ?_ | refine And.intro rfl ?_ | refine And.intro (Pur.mk rfl) ?_ | refine And.intro (Pur.mk (by assumption)) ?_)); ((try cbv) <;> (repeat ((with_reducible refine EW.of ?_); cbv))))
      ((try cbv) <;> (repeat ((with_reducible refine EW.of ?_); cbv)))
      (refine ⟨Ent.of (hP ▸ Try.func14) rfl, ?_⟩; refine TC.pureE hI ?_; cbv; (repeat (first | exact trivial | refine And.intro (Emb.Pur _ _) ?_ | refine And.intro rfl ?_ | refine And.intro (Pur.mk rfl) ?_ | refine And.intro (Pur.mk (by assumption)) ?_)); ((try cbv) <;> (repeat ((with_reducible refine EW.of ?_); cbv))))
      (refine ⟨Ent.of (hP ▸ Try.func12) rfl, ?_⟩; refine TC.pureE hs2 ?_; cbv; (repeat (first | exact trivial | refine And.intro (Emb.Pur _ _) ?_ | refine And.intro rfl ?_ | refine And.intro (Pur.mk rfl) ?_ | refine And.intro (Pur.mk (by assumption)) ?_)); ((try cbv) <;> (repeat ((with_reducible refine EW.of ?_); cbv))))
      (first | refine byes (eqT rfl) ?_ | refine byes (beqT rfl) ?_)
      ((try cbv) <;> (repeat ((with_reducible refine EW.of ?_); cbv)))
      (refine ⟨Ent.of (hP ▸ Try.func9) rfl, ?_⟩; refine TC.pureE h9 ?_; cbv; (repeat (first | exact trivial | refine And.intro (Emb.Pur _ _) ?_ | refine And.intro rfl ?_ | refine And.intro (Pur.mk rfl) ?_ | refine And.intro (Pur.mk (by assumption)) ?_)); ((try cbv) <;> (repeat ((with_reducible refine EW.of ?_); cbv))))
end Go.Proofs.Ytaieiigfheabfaa
