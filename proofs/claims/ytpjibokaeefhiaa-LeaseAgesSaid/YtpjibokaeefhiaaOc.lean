import Derived.Test.YtpjibokaeefhiaaOb
import Derived.Test.YtpjibokaeefhiaaLk
/-! Leases: what their closures tell; Find, Way. -/
namespace Go.Proofs.Ytpjibokaeefhiaa
open Go.Proofs.Ytpjibokaeefhiaa.Tw
theorem tells75 (A : Ar) (F : EmL) {P : Program} (hP : P = Try.prog) (id : Int) : Tells P F 75 [.imm [.int .i64 id]] (fun x => decide (x.id = id)) := by
  refine ⟨rfl, Ent.of (hP ▸ Try.func75) rfl, fun x => ?_⟩
  refine TPure.ofE A T0 (T0_ok hP) (hP ▸ Try.func75) rfl _ rfl (by simp) ?_
  obtain ⟨x1, x2, x3, x4, x5⟩ := x
  obtain ⟨b, hb⟩ : ∃ b, b = decide (x1 = id) := ⟨_, rfl⟩
  simp only [F.row]
  rw [← hb]
  cbv
  ((try cbv) <;> (repeat ((with_reducible refine EW.of ?_); cbv)))
  exact ⟨(A.ok_eq _ _).trans hb.symm, trivial⟩
theorem tells77 (A : Ar) (F : EmL) {P : Program} (hP : P = Try.prog) (id : Int) : Tells P F 77 [.imm [.int .i64 id]] (fun x => decide (x.client = id)) := by
  refine ⟨rfl, Ent.of (hP ▸ Try.func77) rfl, fun x => ?_⟩
  refine TPure.ofE A T0 (T0_ok hP) (hP ▸ Try.func77) rfl _ rfl (by simp) ?_
  obtain ⟨x1, x2, x3, x4, x5⟩ := x
  obtain ⟨b, hb⟩ : ∃ b, b = decide (x3 = id) := ⟨_, rfl⟩
  simp only [F.row]
  rw [← hb]
  cbv
  ((try cbv) <;> (repeat ((with_reducible refine EW.of ?_); cbv)))
  exact ⟨(A.ok_eq _ _).trans hb.symm, trivial⟩
theorem tells67 (A : Ar) (F : EmL) {P : Program} (hP : P = Try.prog) (y1 y2 y3 y4 y5 : Int) : Tells P F 67 [.imm [.int .i64 y1, .int .i64 y2, .int .i64 y3, .int .i64 y4, .int .i64 y5]] (fun x => decide (y1 ≤ x.id)) := by
  refine ⟨rfl, Ent.of (hP ▸ Try.func67) rfl, fun x => ?_⟩
  refine TPure.ofE A T0 (T0_ok hP) (hP ▸ Try.func67) rfl _ rfl (by simp) ?_
  obtain ⟨x1, x2, x3, x4, x5⟩ := x
  obtain ⟨b, hb⟩ : ∃ b, b = decide (y1 ≤ x1) := ⟨_, rfl⟩
  simp only [F.row]
  rw [← hb]
  cbv
  ((try cbv) <;> (repeat ((with_reducible refine EW.of ?_); cbv)))
  exact ⟨(A.ok_le _ _).trans hb.symm, trivial⟩
theorem tells76 (A : Ar) (E : Em) (F : EmL) {P : Program} (hP : P = Try.prog) (n : Nat) (hn : n ≤ 1000000) (i k : Int) (s : ByteArray) (ks : List Tree) (hw : within n (.node i k s ks)) (node : Int) :
    Tells P F 76 [.imm [.int .i64 i, .int .i64 k, .str s, .sl 4 (E.tree.l ks)], .imm [.int .i64 node]] (fun x => withinS (.node i k s ks) x.root node || withinS (.node i k s ks) node x.root) := by
  refine ⟨by (repeat (first | exact rfl | exact Emb.purL _ _ | assumption | apply pur_cons | apply pur_sl | apply pur_slt | apply pur_agg | apply pur_tup)), Ent.of (hP ▸ Try.func76) rfl, fun x => ?_⟩
  refine TPure.ofE A T0 (T0_ok hP) (hP ▸ Try.func76) rfl _ rfl (by simp) ?_
  obtain ⟨x1, x2, x3, x4, x5⟩ := x
  have ha := Within21 A hP x2 node n hn (.node i k s ks) hw
  have hb := Within21 A hP node x2 n hn (.node i k s ks) hw
  simp only [F.row]
  generalize withinS (.node i k s ks) x2 node = wa at ha
  generalize withinS (.node i k s ks) node x2 = wb at hb
  simp only [E.av, E.node] at ha hb
  obtain ⟨b, hbb⟩ : ∃ b, b = (wa || wb) := ⟨_, rfl⟩
  rw [← hbb]
  cbv
  ((try cbv) <;> (repeat ((with_reducible refine EW.of ?_); cbv)))
  (refine ⟨Ent.of (hP ▸ Try.func21) rfl, ?_⟩; refine TC.pureE ha ?_; cbv; (repeat (first | exact trivial | refine And.intro (Emb.Pur _ _) ?_ | refine And.intro rfl ?_ | refine And.intro (Pur.mk rfl) ?_ | refine And.intro (Pur.mk (by assumption)) ?_)); ((try cbv) <;> (repeat ((with_reducible refine EW.of ?_); cbv))))
  cases wa with
  | true =>
    replace hbb : b = true := hbb
    subst hbb
    ((try cbv) <;> (repeat ((with_reducible refine EW.of ?_); cbv)))
  | false =>
    replace hbb : b = wb := by rw [hbb]; simp
    subst hbb
    ((try cbv) <;> (repeat ((with_reducible refine EW.of ?_); cbv)))
    (refine ⟨Ent.of (hP ▸ Try.func21) rfl, ?_⟩; refine TC.pureE hb ?_; cbv; (repeat (first | exact trivial | refine And.intro (Emb.Pur _ _) ?_ | refine And.intro rfl ?_ | refine And.intro (Pur.mk rfl) ?_ | refine And.intro (Pur.mk (by assumption)) ?_)); ((try cbv) <;> (repeat ((with_reducible refine EW.of ?_); cbv))))
theorem Find49 (A : Ar) (E : Em) (F : EmL) {P : Program} (hP : P = Try.prog) (l : List Lease) (hl : l.length ≤ 1000000) (id : Int) : TPure P 49 [.sl 5 (F.l.l l), .int .i64 id] (F.found (l.find? fun x => decide (x.id = id))) := by
  refine TPure.ofE A T0 (T0_ok hP) (hP ▸ Try.func49) rfl _ rfl (by simp) ?_
  have h74 := find74 A E F hP _ _ _ (tells75 A F hP id) l hl
  generalize l.find? (fun x => decide (x.id = id)) = o at h74
  unfold EmL.found at h74 ⊢
  generalize o.getD lease0 = u at h74
  generalize o.isSome = ob at h74
  obtain ⟨u1, u2, u3, u4, u5⟩ := u
  rw [F.row] at h74 ⊢
  cbv
  ((try cbv) <;> (repeat ((with_reducible refine EW.of ?_); cbv)))
  (refine ⟨Ent.of (hP ▸ Try.func74) rfl, ?_⟩; refine TC.pureT h74 rfl ?_; cbv; (repeat (first | exact trivial | refine And.intro (Emb.Pur _ _) ?_ | refine And.intro rfl ?_ | refine And.intro (Pur.mk rfl) ?_ | refine And.intro (Pur.mk (by assumption)) ?_)); ((try cbv) <;> (repeat ((with_reducible refine EW.of ?_); cbv))))
theorem Way51 (A : Ar) (E : Em) (F : EmL) {P : Program} (hP : P = Try.prog) (n : Nat) (hn : n ≤ 1000000) (t : Tree) (hw : within n t) (l : List Lease) (hl : l.length ≤ 1000000) (node : Int) : TPure P 51 [E.tree.v t, .sl 5 (F.l.l l), .int .i64 node] (F.found (l.find? fun x => withinS t x.root node || withinS t node x.root)) := by
  refine TPure.ofE A T0 (T0_ok hP) (hP ▸ Try.func51) rfl _ rfl (by simp) ?_
  obtain ⟨i, k, s, ks⟩ := t
  have h74 := find74 A E F hP _ _ _ (tells76 A E F hP n hn i k s ks hw node) l hl
  generalize l.find? (fun x => withinS (.node i k s ks) x.root node || withinS (.node i k s ks) node x.root) = o at h74
  unfold EmL.found at h74 ⊢
  generalize o.getD lease0 = u at h74
  generalize o.isSome = ob at h74
  obtain ⟨u1, u2, u3, u4, u5⟩ := u
  simp only [F.row, E.node] at h74 ⊢
  cbv
  ((try cbv) <;> (repeat ((with_reducible refine EW.of ?_); cbv)))
  (refine ⟨Ent.of (hP ▸ Try.func74) rfl, ?_⟩; refine TC.pureT h74 rfl ?_; cbv; (repeat (first | exact trivial | refine And.intro (Emb.Pur _ _) ?_ | refine And.intro rfl ?_ | refine And.intro (Pur.mk rfl) ?_ | refine And.intro (Pur.mk (by assumption)) ?_)); ((try cbv) <;> (repeat ((with_reducible refine EW.of ?_); cbv))))
  refine And.intro ⟨by (repeat (first | exact rfl | exact Emb.purL _ _ | assumption | apply pur_cons | apply pur_sl | apply pur_slt | apply pur_agg | apply pur_tup))⟩ ?_
  refine And.intro ⟨by (repeat (first | exact rfl | exact Emb.purL _ _ | assumption | apply pur_cons | apply pur_sl | apply pur_slt | apply pur_agg | apply pur_tup))⟩ ?_
  ((try cbv) <;> (repeat ((with_reducible refine EW.of ?_); cbv)))
theorem LM.ofQp {σ : Type} {S : LI σ} {K n : Nat} {s : σ} {fr : AFr} {L : Store} (π : List Nat) (s' : σ) (hn : fr.n = n) (hi : S.inv s') (hm : S.m s' < S.m s) (h : eVS true K π fr L (S.fr s') (S.st s') True) : LM S K n s fr L :=
  ⟨s', hi, hm, hn ▸ (eVS_ok h).1⟩
def stL (F : EmL) (L : Store) : Option (Nat × List Lease) → Store
  | none => L
  | some (_, done) => L ++ [some (.arr 5 (F.l.l done))]
def rowL (p : Nat) : Option (Nat × List Lease) → AV
  | none => .nils
  | some (n, _) => .row p 5 0 n
def invL (ts : List Lease) : Option (Nat × List Lease) → Prop
  | none => ts = []
  | some (m, done) => m = done.length ∧ done = ts
set_option maxHeartbeats 1000000 in
theorem keep71 (A : Ar) (E : Em) (F : EmL) {P : Program} (hP : P = Try.prog) (g : FuncId) (caps : List AV) (so : Lease → Bool) (hg : Tells P F g caps so) (l : List Lease) (hl : l.length ≤ 1000000) : TPure P 71 [.sl 5 (F.l.l l), .func (.func g) [] caps] (.sl 5 (F.l.l (l.filter so))) := by
  refine TPure.ofE A T0 (T0_ok hP) (hP ▸ Try.func71) rfl _ rfl (by simp) ?_
  obtain ⟨hc, he, hg⟩ := hg
  have hll := F.l.len l
  obtain ⟨r, hr⟩ : ∃ r, r = l.filter so := ⟨_, rfl⟩
  rw [← hr]
  cbv
  ((try cbv) <;> (repeat ((with_reducible refine EW.of ?_); cbv)))
  obtain ⟨S, hS⟩ : ∃ S : LI (Nat × Option (Nat × List Lease)), S = ⟨fun x => [(9, .int .i64 x.1), (8, .int .i64 (A.len (F.l.l l))), (7, .sl 5 (F.l.l l)), (4, rowL 0 x.2), (1, .func (.func g) [] caps)], fun x => stL F [] x.2, fun x => x.1 ≤ l.length ∧ invL ((l.take x.1).filter so) x.2, fun x => l.length - x.1⟩ := ⟨_, rfl⟩
  refine TW.loopQ A (T0_ok hP) S _ rfl (0, none) ?_ ?_ ?_
  · rw [hS]; exact ⟨Nat.zero_le _, rfl⟩
  · rw [hS]; cbv; (repeat (first | exact trivial | refine And.intro (Emb.Pur _ _) ?_ | refine And.intro rfl ?_ | refine And.intro (Pur.mk rfl) ?_ | refine And.intro (Pur.mk (by assumption)) ?_))
  rintro ⟨j, o⟩ hj l1 L1 e1 e2
  rw [hS] at hj e1 e2
  obtain ⟨hj, ho⟩ := hj
  dsimp only at hj ho e1 e2
  subst e1
  obtain ⟨oo, hoe⟩ : ∃ oo, oo = o := ⟨_, rfl⟩
  have hoo : invL ((l.take j).filter so) oo := hoe ▸ ho
  cases o with
  | none =>
    dsimp only [stL, rowL, invL] at e2 ho ⊢
    obtain ⟨piA, hpiA⟩ : ∃ p : List Nat, p = [1] := ⟨_, rfl⟩
    obtain ⟨piB, hpiB⟩ : ∃ p : List Nat, p = [] := ⟨_, rfl⟩
    subst e2
    cbv
    ((try cbv) <;> (repeat ((with_reducible refine EW.of ?_); cbv)))
    refine bsplit (fun h => ?_) (fun h => ?_)
    · have h : j < (F.l.l l).length := lt_nt h rfl (A.ok_len _)
      obtain ⟨x, hx⟩ : ∃ x, l[j]? = some x := ⟨_, List.getElem?_eq_getElem (by omega)⟩
      have hgx := hg x
      have htk : (l.take (j + 1)).filter so = (l.take j).filter so ++ (if so x then [x] else []) := by
        rw [List.take_add_one, hx, List.filter_append]
        simp only [Option.toList_some]
        cases hs : so x <;> simp [hs]
      have hlk : ((l.take j).filter so).length ≤ j := Nat.le_trans (List.length_filter_le _ _) (by simp; omega)
      generalize so x = b at hgx htk
      obtain ⟨x1, x2, x3, x4, x5⟩ := x
      rw [F.row] at hgx
      ((try cbv) <;> (repeat ((with_reducible refine EW.of ?_); cbv)))
      refine ⟨j, _, rfl, F.get hx, ?_⟩
      cbv
      ((try cbv) <;> (repeat ((with_reducible refine EW.of ?_); cbv)))
      refine ⟨he, ?_⟩
      refine TC.pure hgx (by simpa [purL, AV.pur] using hc) ?_
      cases b with
      | true =>
        obtain ⟨done1, hd1⟩ : ∃ d, d = (l.take (j + 1)).filter so := ⟨_, rfl⟩
        obtain ⟨q, hq⟩ : ∃ q, q = done1.length := ⟨_, rfl⟩
        ((try cbv) <;> (repeat ((with_reducible refine EW.of ?_); cbv)))
        rw [ho] at htk
        refine ⟨⟨rfl⟩, q, F.l.l done1, by rw [hq, hd1, htk]; rfl, by rw [hd1, htk]; simp only [if_true, List.nil_append, F.l.cons, F.row, F.l.nil]; rfl, Nat.zero_le _, ?_, ?_, ?_⟩
        · rw [hq, hd1, htk]; simp
        · rw [hq, hd1, htk]; simp
        cbv
        ((try cbv) <;> (repeat ((with_reducible refine EW.of ?_); cbv)))
        refine LM.ofQp piA (j + 1, some (q, done1)) rfl ?_ ?_ ?_
        · rw [hS]; exact ⟨by show j + 1 ≤ _; omega, hq, hd1⟩
        · rw [hS]; show l.length - (j + 1) < l.length - j; omega
        · rw [hS, hpiA]; (cbv; (repeat (first | exact trivial | refine And.intro (Emb.Pur _ _) ?_ | refine And.intro rfl ?_ | refine And.intro (Pur.mk rfl) ?_ | refine And.intro (Pur.mk (by assumption)) ?_)); refine And.intro (inc_eq A (by omega)) ?_; (repeat (first | exact trivial | refine And.intro (Emb.Pur _ _) ?_ | refine And.intro rfl ?_ | refine And.intro (Pur.mk rfl) ?_ | refine And.intro (Pur.mk (by assumption)) ?_)))
      | false =>
        ((try cbv) <;> (repeat ((with_reducible refine EW.of ?_); cbv)))
        refine LM.ofQp piB (j + 1, oo) rfl ?_ ?_ ?_
        · rw [hS]; exact ⟨by show j + 1 ≤ _; omega, by rw [htk]; simp only [Bool.false_eq_true, if_false, List.append_nil]; exact hoo⟩
        · rw [hS]; show l.length - (j + 1) < l.length - j; omega
        · rw [hS, hoe, hpiB]; (cbv; (repeat (first | exact trivial | refine And.intro (Emb.Pur _ _) ?_ | refine And.intro rfl ?_ | refine And.intro (Pur.mk rfl) ?_ | refine And.intro (Pur.mk (by assumption)) ?_)); refine And.intro (inc_eq A (by omega)) ?_; (repeat (first | exact trivial | refine And.intro (Emb.Pur _ _) ?_ | refine And.intro rfl ?_ | refine And.intro (Pur.mk rfl) ?_ | refine And.intro (Pur.mk (by assumption)) ?_)))
    · have h : (F.l.l l).length ≤ j := lt_nf h rfl (A.ok_len _)
      rw [List.take_of_length_le (by omega), ← hr] at ho
      ((try cbv) <;> (repeat ((with_reducible refine EW.of ?_); cbv)))
      subst ho
      exact ⟨F.l.nil.symm, trivial⟩
  | some x =>
    obtain ⟨m, done⟩ := x
    dsimp only [stL, rowL, invL] at e2 ho ⊢
    obtain ⟨hm, ho⟩ := ho
    obtain ⟨piA, hpiA⟩ : ∃ p : List Nat, p = [2] := ⟨_, rfl⟩
    obtain ⟨piB, hpiB⟩ : ∃ p : List Nat, p = [0] := ⟨_, rfl⟩
    subst e2
    cbv
    ((try cbv) <;> (repeat ((with_reducible refine EW.of ?_); cbv)))
    refine bsplit (fun h => ?_) (fun h => ?_)
    · have h : j < (F.l.l l).length := lt_nt h rfl (A.ok_len _)
      obtain ⟨x, hx⟩ : ∃ x, l[j]? = some x := ⟨_, List.getElem?_eq_getElem (by omega)⟩
      have hgx := hg x
      have htk : (l.take (j + 1)).filter so = (l.take j).filter so ++ (if so x then [x] else []) := by
        rw [List.take_add_one, hx, List.filter_append]
        simp only [Option.toList_some]
        cases hs : so x <;> simp [hs]
      have hlk : ((l.take j).filter so).length ≤ j := Nat.le_trans (List.length_filter_le _ _) (by simp; omega)
      generalize so x = b at hgx htk
      obtain ⟨x1, x2, x3, x4, x5⟩ := x
      rw [F.row] at hgx
      ((try cbv) <;> (repeat ((with_reducible refine EW.of ?_); cbv)))
      refine ⟨j, _, rfl, F.get hx, ?_⟩
      cbv
      ((try cbv) <;> (repeat ((with_reducible refine EW.of ?_); cbv)))
      refine ⟨he, ?_⟩
      refine TC.pure hgx (by simpa [purL, AV.pur] using hc) ?_
      cases b with
      | true =>
        obtain ⟨done1, hd1⟩ : ∃ d, d = (l.take (j + 1)).filter so := ⟨_, rfl⟩
        obtain ⟨q, hq⟩ : ∃ q, q = done1.length := ⟨_, rfl⟩
        ((try cbv) <;> (repeat ((with_reducible refine EW.of ?_); cbv)))
        have hdl := F.l.len done
        rw [← ho] at htk hlk
        have hq1 : q = m + 1 := by rw [hq, hd1, htk, hm]; simp
        refine ⟨⟨rfl⟩, q, F.l.l done1, hq1, by rw [hd1, htk]; simp only [if_true, F.l.app, F.l.cons, F.row, F.l.nil]; rw [List.take_of_length_le (show (F.l.l done).length ≤ m by omega)], (show m ≤ (F.l.l done).length by omega), by omega, by omega, ?_⟩
        cbv
        ((try cbv) <;> (repeat ((with_reducible refine EW.of ?_); cbv)))
        refine LM.ofQp piA (j + 1, some (q, done1)) rfl ?_ ?_ ?_
        · rw [hS]; exact ⟨by show j + 1 ≤ _; omega, hq, hd1⟩
        · rw [hS]; show l.length - (j + 1) < l.length - j; omega
        · rw [hS, hpiA]; (cbv; (repeat (first | exact trivial | refine And.intro (Emb.Pur _ _) ?_ | refine And.intro rfl ?_ | refine And.intro (Pur.mk rfl) ?_ | refine And.intro (Pur.mk (by assumption)) ?_)); refine And.intro (inc_eq A (by omega)) ?_; (repeat (first | exact trivial | refine And.intro (Emb.Pur _ _) ?_ | refine And.intro rfl ?_ | refine And.intro (Pur.mk rfl) ?_ | refine And.intro (Pur.mk (by assumption)) ?_)))
      | false =>
        ((try cbv) <;> (repeat ((with_reducible refine EW.of ?_); cbv)))
        refine LM.ofQp piB (j + 1, oo) rfl ?_ ?_ ?_
        · rw [hS]; exact ⟨by show j + 1 ≤ _; omega, by rw [htk]; simp only [Bool.false_eq_true, if_false, List.append_nil]; exact hoo⟩
        · rw [hS]; show l.length - (j + 1) < l.length - j; omega
        · rw [hS, hoe, hpiB]; (cbv; (repeat (first | exact trivial | refine And.intro (Emb.Pur _ _) ?_ | refine And.intro rfl ?_ | refine And.intro (Pur.mk rfl) ?_ | refine And.intro (Pur.mk (by assumption)) ?_)); refine And.intro (inc_eq A (by omega)) ?_; (repeat (first | exact trivial | refine And.intro (Emb.Pur _ _) ?_ | refine And.intro rfl ?_ | refine And.intro (Pur.mk rfl) ?_ | refine And.intro (Pur.mk (by assumption)) ?_)))
    · have h : (F.l.l l).length ≤ j := lt_nf h rfl (A.ok_len _)
      rw [List.take_of_length_le (by omega), ← hr] at ho
      ((try cbv) <;> (repeat ((with_reducible refine EW.of ?_); cbv)))
      subst ho
      exact ⟨F.l.cut hm, F.l.Pur _, trivial⟩
end Go.Proofs.Ytpjibokaeefhiaa
