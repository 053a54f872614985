import Derived.Test.YtmbbdabcbnemiaaRt
import Derived.Test.YtmbbdabcbnemiaaTw10
/-! A reader's nodes. -/
namespace Go.Proofs.Ytmbbdabcbnemiaa
open Go.Proofs.Ytmbbdabcbnemiaa.Tw
def nodeR (A : Ar) (bs : List UInt8) : Nat → Nat → Nat → RN Tree
  | 0, c, a => .no a (c + 1) a
  | f + 1, c, a => if 200 < c + 1 then .no a (c + 1) a else
    ((numR A bs a).toN (c + 1)).bind fun i c a => ((numR A bs a).toN c).bind fun k c a => ((textR A bs a).toN c).bind fun s c a => ((countR A bs a 32 bs.length).toN c).bind fun n c a =>
      (listR (nodeR A bs f) n.toNat c a).bind fun ks c a => .ok (.node i k s ks) c a
theorem textR_ok {A : Ar} {bs : List UInt8} {a a2 : Nat} {s : ByteArray} (h : textR A bs a = .ok s a2) : a2 ≤ bs.length := by
  unfold textR at h
  cases hc : countR A bs a 1 bs.length with
  | no e a3 => rw [hc] at h; cases h
  | ok n a3 =>
    rw [hc] at h
    simp only [RR.bind] at h
    cases ht : takeR bs a3 n.toNat with
    | no e a4 => rw [ht] at h; cases h
    | ok l a4 => rw [ht] at h; cases h; exact (takeR_ok ht).2.2
theorem listR_good {α : Type} {one : Nat → Nat → RN α} {len : Nat} (hgood : ∀ c a x c2 a2, c ≤ 200 → a ≤ len → one c a = .ok x c2 a2 → c2 ≤ 200 ∧ a2 ≤ len) : ∀ (n c a c2 a2 : Nat) (xs : List α), c ≤ 200 → a ≤ len → listR one n c a = .ok xs c2 a2 → c2 ≤ 200 ∧ a2 ≤ len
  | 0, c, a, c2, a2, xs, hc, ha, h => by cases h; exact ⟨hc, ha⟩
  | n + 1, c, a, c2, a2, xs, hc, ha, h => by
    rw [listR] at h
    cases ho : one c a with
    | no e c3 a3 => rw [ho] at h; cases h
    | ok x c3 a3 =>
      rw [ho] at h
      simp only [RN.bind] at h
      have h1 := hgood c a x c3 a3 hc ha ho
      cases hl : listR one n c3 a3 with
      | no e c4 a4 => rw [hl] at h; cases h
      | ok ys c4 a4 =>
        rw [hl] at h
        cases h
        exact listR_good hgood n c3 a3 c2 a2 ys h1.1 h1.2 hl
theorem nodeR_good {A : Ar} {bs : List UInt8} : ∀ (f c a : Nat) (x : Tree) (c2 a2 : Nat), c ≤ 200 → a ≤ bs.length → nodeR A bs f c a = .ok x c2 a2 → c2 ≤ 200 ∧ a2 ≤ bs.length
  | 0, c, a, x, c2, a2, hc, ha, h => by cases h
  | f + 1, c, a, x, c2, a2, hc, ha, h => by
    rw [nodeR] at h
    split at h
    · cases h
    cases h1 : numR A bs a with
    | no e a3 => rw [h1] at h; cases h
    | ok i a3 =>
    rw [h1] at h
    simp only [RR.toN, RN.bind] at h
    cases h2 : numR A bs a3 with
    | no e a4 => rw [h2] at h; cases h
    | ok k a4 =>
    rw [h2] at h
    simp only [RN.bind] at h
    cases h3 : textR A bs a4 with
    | no e a5 => rw [h3] at h; cases h
    | ok s a5 =>
    rw [h3] at h
    simp only [RN.bind] at h
    cases h4 : countR A bs a5 32 bs.length with
    | no e a6 => rw [h4] at h; cases h
    | ok n a6 =>
    rw [h4] at h
    simp only [RN.bind] at h
    cases h5 : listR (nodeR A bs f) n.toNat (c + 1) a6 with
    | no e c7 a7 => rw [h5] at h; cases h
    | ok ks c7 a7 =>
    rw [h5] at h
    cases h
    have h6 : a6 ≤ bs.length := by
      unfold countR at h4
      cases hn : numR A bs a5 with
      | no e a3 => rw [hn] at h4; cases h4
      | ok m a3 =>
        rw [hn] at h4
        simp only [RR.bind] at h4
        split at h4
        · cases h4
        · cases h4; exact (numR_ok hn).2
    exact listR_good (fun c a x c2 a2 hc ha h => nodeR_good f c a x c2 a2 hc ha h) _ _ _ _ _ _ (by omega) h6 h5
theorem d41_0 {d : Int} (h : d = 41 - ((0 : Nat) : Int)) : 40 < d := by omega
theorem d41_s {d : Int} {f : Nat} (h : d = 41 - ((f + 1 : Nat) : Int)) : d ≤ 40 := by omega
theorem d41_i (A : Ar) {d : Int} {f : Nat} (hf : f + 1 ≤ 40) (h : d = 41 - ((f + 1 : Nat) : Int)) : A.op .add .i64 d 1 = 41 - (f : Int) := by
  rw [add_i64 rfl rfl (by omega) (by omega)]; omega
theorem node68 (A : Ar) (E : Em) (B : EmB) {P : Program} (hP : P = Try.prog) (bs : List UInt8) (bad : Int) (d d2 : Int) (hd2 : A.op .add .i64 d 1 = d2) (c a : Nat) (R : RN Tree)
    (h66 : TCX P 66 [.int .i64 d2, .ref 1 1 0 0, .ref 2 1 0 0, .ref 3 1 0 0] (stN B bs bad c a) (R.fin E.tree.v) (stN B bs bad R.cnt R.pos)) :
    TCX P 68 [.ref 3 1 0 0, .imm [.int .i64 d]] (stN B bs bad c a) (R.fin E.tree.v) (stN B bs bad R.cnt R.pos) := by
  subst hd2
  obtain ⟨x, hx⟩ : ∃ x, x = R.fin E.tree.v := ⟨_, rfl⟩
  obtain ⟨M, hM⟩ : ∃ M, M = stN B bs bad R.cnt R.pos := ⟨_, rfl⟩
  rw [← hx, ← hM]
  refine TCX.of A _ _ T0 (T0_ok hP) (hP ▸ Try.func68) rfl _ rfl (by simp) ?_
  unfold stN fun66 rdr
  cbv
  ((try cbv) <;> (repeat ((with_reducible refine EW.of ?_); cbv)))
  refine ⟨Ent.of (hP ▸ Try.func66) rfl, ?_⟩
  cases R with
  | no e c2 a2 =>
    subst hx hM
    refine TCX.call [0, 1, 2, 3] h66 ?_
    cbv
    (repeat (first | exact trivial | refine And.intro (Emb.Pur _ _) ?_ | refine And.intro rfl ?_ | refine And.intro (Pur.mk rfl) ?_ | refine And.intro (inc_eq A (by omega)) ?_))
    refine R1.of ?_
    cbv
    (repeat (first | exact trivial | refine And.intro (Emb.Pur _ _) ?_ | refine And.intro rfl ?_ | refine And.intro (Pur.mk rfl) ?_ | refine And.intro (inc_eq A (by omega)) ?_))
  | ok t c2 a2 =>
    obtain ⟨i, k, s, ks⟩ := t
    replace h66 : TCX P _ _ _ (.ret (E.tree.v (.node i k s ks))) (stN B bs bad c2 a2) := h66
    replace hx : x = .ret (E.tree.v (.node i k s ks)) := hx
    rw [E.node] at h66 hx
    subst hx hM
    refine TCX.call [0, 1, 2, 3] h66 ?_
    cbv
    (repeat (first | exact trivial | refine And.intro (Emb.Pur _ _) ?_ | refine And.intro rfl ?_ | refine And.intro (Pur.mk rfl) ?_ | refine And.intro (inc_eq A (by omega)) ?_))
    ((try cbv) <;> (repeat ((with_reducible refine EW.of ?_); cbv)))
    refine R1.of ?_
    cbv
    (repeat (first | exact trivial | refine And.intro (Emb.Pur _ _) ?_ | refine And.intro rfl ?_ | refine And.intro (Pur.mk rfl) ?_ | refine And.intro (inc_eq A (by omega)) ?_))
set_option maxHeartbeats 4000000 in
theorem node66 (A : Ar) (E : Em) (B : EmB) {P : Program} (hP : P = Try.prog) (bs : List UInt8) (hl : bs.length ≤ 1000000000) (bad : Int) : ∀ (f : Nat), f ≤ 40 → ∀ (d : Int), d = 41 - (f : Int) → ∀ (c a : Nat), c ≤ 200 → a ≤ bs.length →
    TCX P 66 [.int .i64 d, .ref 1 1 0 0, .ref 2 1 0 0, .ref 3 1 0 0] (stN B bs bad c a) ((nodeR A bs f c a).fin E.tree.v) (stN B bs bad (nodeR A bs f c a).cnt (nodeR A bs f c a).pos) := by
  intro f
  induction f with
  | zero =>
  intro _ d hd c a hc ha
  obtain ⟨x, hx⟩ : ∃ x, x = AEnd.pan (failAV a) := ⟨_, rfl⟩
  obtain ⟨M, hM⟩ : ∃ M, M = stN B bs bad (c + 1) a := ⟨_, rfl⟩
  show TCX P _ _ (stN B bs bad c a) (AEnd.pan (failAV a)) (stN B bs bad (c + 1) a)
  rw [← hx, ← hM]
  refine TCX.of A _ _ T0 (T0_ok hP) (hP ▸ Try.func66) rfl _ rfl (by simp) ?_
  unfold stN fun66 rdr
  cbv
  ((try cbv) <;> (repeat ((with_reducible refine EW.of ?_); cbv)))
  refine bsplit (fun h1 => ?_) (fun h1 => ?_)
  · skip
    subst hx hM
    cbv
    ((try cbv) <;> (repeat ((with_reducible refine EW.of ?_); cbv)))
    refine R1.of ?_
    cbv
    (repeat (first | exact trivial | refine And.intro (Emb.Pur _ _) ?_ | refine And.intro rfl ?_ | refine And.intro (Pur.mk rfl) ?_ | refine And.intro (inc_eq A (by omega)) ?_))
  · cbv
    ((try cbv) <;> (repeat ((with_reducible refine EW.of ?_); cbv)))
    refine byes (show A.lt 40 d = true from ltT (d41_0 hd)) ?_
    subst hx hM
    cbv
    ((try cbv) <;> (repeat ((with_reducible refine EW.of ?_); cbv)))
    refine R1.of ?_
    cbv
    (repeat (first | exact trivial | refine And.intro (Emb.Pur _ _) ?_ | refine And.intro rfl ?_ | refine And.intro (Pur.mk rfl) ?_ | refine And.intro (inc_eq A (by omega)) ?_))
  | succ f ih =>
  intro hf d hd c a hc ha
  obtain ⟨R, hR⟩ : ∃ R, nodeR A bs (f + 1) c a = R := ⟨_, rfl⟩
  rw [hR]
  obtain ⟨x, hx⟩ : ∃ x, x = R.fin E.tree.v := ⟨_, rfl⟩
  obtain ⟨M, hM⟩ : ∃ M, M = stN B bs bad R.cnt R.pos := ⟨_, rfl⟩
  rw [← hx, ← hM]
  rw [nodeR] at hR
  have h43 := number43 A B hP bs hl a ha bad
  refine TCX.of A _ _ T0 (T0_ok hP) (hP ▸ Try.func66) rfl _ rfl (by simp) ?_
  unfold stN fun66 rdr
  cbv
  ((try cbv) <;> (repeat ((with_reducible refine EW.of ?_); cbv)))
  refine bsplit (fun h1 => ?_) (fun h1 => ?_)
  · have h1 : 200 < c + 1 := lt_nt (i := 200) h1 rfl (inc_eq A (by omega))
    rw [if_pos h1] at hR
    rw [← hR] at hx hM
    subst hx hM
    cbv
    ((try cbv) <;> (repeat ((with_reducible refine EW.of ?_); cbv)))
    refine R1.of ?_
    cbv
    (repeat (first | exact trivial | refine And.intro (Emb.Pur _ _) ?_ | refine And.intro rfl ?_ | refine And.intro (Pur.mk rfl) ?_ | refine And.intro (inc_eq A (by omega)) ?_))
  have h1 : c + 1 ≤ 200 := lt_nf (i := 200) h1 rfl (inc_eq A (by omega))
  rw [if_neg (by omega)] at hR
  cbv
  ((try cbv) <;> (repeat ((with_reducible refine EW.of ?_); cbv)))
  refine bno (show A.lt 40 d = false from ltF (d41_s hd)) ?_
  cbv
  obtain ⟨c1, hc1⟩ : ∃ c1, c1 = c + 1 := ⟨_, rfl⟩
  have hinc : A.op .add .i64 (c : Int) 1 = (c1 : Int) := by rw [hc1]; exact inc_eq A (by omega)
  rw [← hc1] at hR
  have hc1' : c1 ≤ 200 := by omega
  clear hc1 h1
  refine EW.vs [(6, .int .i64 a), (5, .ref 4 4 0 0), (4, .imm [.int .i64 d]), (1, .ref 1 1 0 0), (2, .ref 2 1 0 0), (3, .ref 3 1 0 0)] (stN B bs bad c1 a ++ [some (.box 4 (.agg [.int .i64 0, .int .i64 0, .str ⟨#[]⟩, .nils]))]) 44 rfl ?_
  cbv
  (repeat (first | exact trivial | refine And.intro (Emb.Pur _ _) ?_ | refine And.intro hinc ?_ | refine And.intro rfl ?_ | refine And.intro (Pur.mk rfl) ?_))
  clear hinc
  ((try cbv) <;> (repeat ((with_reducible refine EW.of ?_); cbv)))
  refine ⟨Ent.of (hP ▸ Try.func43) rfl, ?_⟩
  cases h1 : numR A bs a with
  | no e a2 =>
    rw [h1] at h43 hR
    rw [← hR] at hx hM
    subst hx hM
    refine TCX.call [0] h43 ?_
    cbv
    (repeat (first | exact trivial | refine And.intro (Emb.Pur _ _) ?_ | refine And.intro rfl ?_ | refine And.intro (Pur.mk rfl) ?_ | refine And.intro (inc_eq A (by omega)) ?_))
    refine R1.of ?_
    cbv
    (repeat (first | exact trivial | refine And.intro (Emb.Pur _ _) ?_ | refine And.intro rfl ?_ | refine And.intro (Pur.mk rfl) ?_ | refine And.intro (inc_eq A (by omega)) ?_))
  | ok i a2 =>
  rw [h1] at h43 hR
  have ha2 := (numR_ok h1).2
  simp only [RR.toN, RN.bind] at hR
  refine TCX.call [0] h43 ?_
  cbv
  (repeat (first | exact trivial | refine And.intro (Emb.Pur _ _) ?_ | refine And.intro rfl ?_ | refine And.intro (Pur.mk rfl) ?_ | refine And.intro (inc_eq A (by omega)) ?_))
  ((try cbv) <;> (repeat ((with_reducible refine EW.of ?_); cbv)))
  have h43b := number43 A B hP bs hl a2 ha2 bad
  refine ⟨Ent.of (hP ▸ Try.func43) rfl, ?_⟩
  cases h2 : numR A bs a2 with
  | no e a3 =>
    rw [h2] at h43b hR
    rw [← hR] at hx hM
    subst hx hM
    refine TCX.call [0] h43b ?_
    cbv
    (repeat (first | exact trivial | refine And.intro (Emb.Pur _ _) ?_ | refine And.intro rfl ?_ | refine And.intro (Pur.mk rfl) ?_ | refine And.intro (inc_eq A (by omega)) ?_))
    refine R1.of ?_
    cbv
    (repeat (first | exact trivial | refine And.intro (Emb.Pur _ _) ?_ | refine And.intro rfl ?_ | refine And.intro (Pur.mk rfl) ?_ | refine And.intro (inc_eq A (by omega)) ?_))
  | ok k a3 =>
  rw [h2] at h43b hR
  have ha3 := (numR_ok h2).2
  simp only [RN.bind] at hR
  refine TCX.call [0] h43b ?_
  cbv
  (repeat (first | exact trivial | refine And.intro (Emb.Pur _ _) ?_ | refine And.intro rfl ?_ | refine And.intro (Pur.mk rfl) ?_ | refine And.intro (inc_eq A (by omega)) ?_))
  ((try cbv) <;> (repeat ((with_reducible refine EW.of ?_); cbv)))
  have h48 := text48 A B hP bs hl a3 ha3 bad
  refine ⟨Ent.of (hP ▸ Try.func48) rfl, ?_⟩
  cases h3 : textR A bs a3 with
  | no e a4 =>
    rw [h3] at h48 hR
    rw [← hR] at hx hM
    subst hx hM
    refine TCX.call [0] h48 ?_
    cbv
    (repeat (first | exact trivial | refine And.intro (Emb.Pur _ _) ?_ | refine And.intro rfl ?_ | refine And.intro (Pur.mk rfl) ?_ | refine And.intro (inc_eq A (by omega)) ?_))
    refine R1.of ?_
    cbv
    (repeat (first | exact trivial | refine And.intro (Emb.Pur _ _) ?_ | refine And.intro rfl ?_ | refine And.intro (Pur.mk rfl) ?_ | refine And.intro (inc_eq A (by omega)) ?_))
  | ok s a4 =>
  rw [h3] at h48 hR
  have ha4 := textR_ok h3
  simp only [RN.bind] at hR
  refine TCX.call [0] h48 ?_
  cbv
  (repeat (first | exact trivial | refine And.intro (Emb.Pur _ _) ?_ | refine And.intro rfl ?_ | refine And.intro (Pur.mk rfl) ?_ | refine And.intro (inc_eq A (by omega)) ?_))
  ((try cbv) <;> (repeat ((with_reducible refine EW.of ?_); cbv)))
  have hbl : A.len (B.l.l bs) = (bs.length : Int) := by rw [A.ok_len, B.l.len]
  have h55 := count55 A B hP bs hl a4 ha4 bad 32 (A.len (B.l.l bs))
  rw [hbl] at h55
  cases h4 : countR A bs a4 32 bs.length with
  | no e a5 =>
    rw [h4] at h55 hR
    rw [← hbl] at h55
    rw [← hR] at hx hM
    subst hx hM
    (refine TW.drawE (A := A) true [] _ [(6, [none, none, none, none])] rfl (T0_ok hP) (hP ▸ follows_mixed) (by kernel_rfl) rfl (by kernel_rfl) (by cbv) (by first | kernel_rfl | cbv) rfl rfl rfl ?_; cbv)
    refine And.intro (And.intro (Ent.of (hP ▸ Try.func55) rfl) ?_) trivial
    refine TCX.call [0] h55 ?_
    cbv
    (repeat (first | exact trivial | refine And.intro (Emb.Pur _ _) ?_ | refine And.intro rfl ?_ | refine And.intro (Pur.mk rfl) ?_ | refine And.intro (inc_eq A (by omega)) ?_))
    refine R1.of ?_
    cbv
    (repeat (first | exact trivial | refine And.intro (Emb.Pur _ _) ?_ | refine And.intro rfl ?_ | refine And.intro (Pur.mk rfl) ?_ | refine And.intro (inc_eq A (by omega)) ?_))
  | ok n a5 =>
  rw [h4] at h55 hR
  rw [← hbl] at h55
  have hc4 := countR_ok hl h4
  obtain ⟨m, rfl⟩ : ∃ m : Nat, n = m := ⟨n.toNat, by omega⟩
  simp only [RN.bind, Int.toNat_natCast] at hR
  replace h55 : TC1 P _ _ _ (.int .i64 (m : Int)) [some (rdr B bs a5 bad)] := h55
  have h67 := list67 A E B hP bs bad d (nodeR A bs f) (fun c a hc ha => node68 A E B hP bs bad d _ (d41_i A hf hd) c a _ (ih (by omega) _ rfl c a hc ha)) (fun c a x c2 a2 hc ha h => nodeR_good f c a x c2 a2 hc ha h) m (by omega) c1 a5 hc1' hc4.2.1 _ rfl
  cases h5 : listR (nodeR A bs f) m c1 a5 with
  | no e c6 a6 =>
    rw [h5] at h67 hR
    rw [← hR] at hx hM
    subst hx hM
    (refine TW.drawE (A := A) true [] _ [(6, [some (.box 3 (.agg [.sl 1 (B.l.l bs), .int .i64 a5, .int .i64 bad])), some (.box 1 (.ref 0 3 0 0)), some (.box 1 (.int .i64 c1)), some (.box 1 (.func (.func 66) [] [.ref 1 1 0 0, .ref 2 1 0 0, .ref 3 1 0 0])), some (.box 4 (.agg [.int .i64 0, .int .i64 0, .str ⟨⟨[]⟩⟩, .nils])), some (.box 4 (.agg [.int .i64 i, .int .i64 k, .str s, .nils]))]), (8, [none, none, none, none])] rfl (T0_ok hP) (hP ▸ follows_mixed) (by kernel_rfl) rfl (by kernel_rfl) (by cbv) (by first | kernel_rfl | cbv) rfl rfl rfl ?_; cbv)
    refine And.intro (Ent.of (hP ▸ Try.func55) rfl) ⟨.int .i64 m, [some (.box 3 (.agg [.sl 1 (B.l.l bs), .int .i64 a5, .int .i64 bad])), some (.box 1 (.ref 0 3 0 0)), some (.box 1 (.int .i64 c1)), some (.box 1 (.func (.func 66) [] [.ref 1 1 0 0, .ref 2 1 0 0, .ref 3 1 0 0])), some (.box 4 (.agg [.int .i64 0, .int .i64 0, .str ⟨⟨[]⟩⟩, .nils])), some (.box 4 (.agg [.int .i64 i, .int .i64 k, .str s, .nils]))], TC1.call [0] h55 ?_, ⟨rfl, ?_⟩⟩
    · skip
      cbv
      (repeat (first | exact trivial | refine And.intro (Emb.Pur _ _) ?_ | refine And.intro rfl ?_ | refine And.intro (Pur.mk rfl) ?_ | refine And.intro (inc_eq A (by omega)) ?_))
    cbv
    refine And.intro (And.intro (Ent.of (hP ▸ Try.func67) rfl) ?_) trivial
    refine TCX.call [0, 1, 2, 3] h67 ?_
    cbv
    (repeat (first | exact trivial | refine And.intro (Emb.Pur _ _) ?_ | refine And.intro rfl ?_ | refine And.intro (Pur.mk rfl) ?_ | refine And.intro (inc_eq A (by omega)) ?_))
    refine R1.of ?_
    cbv
    (repeat (first | exact trivial | refine And.intro (Emb.Pur _ _) ?_ | refine And.intro rfl ?_ | refine And.intro (Pur.mk rfl) ?_ | refine And.intro (inc_eq A (by omega)) ?_))
  | ok ks c6 a6 =>
  rw [h5] at h67 hR
  replace hx : x = .ret (E.tree.v (.node i k s ks)) := by rw [hx, ← hR]; rfl
  replace hM : M = stN B bs bad c6 a6 := by rw [hM, ← hR]; rfl
  replace h67 : TC1 P _ _ _ (.sl 4 (E.tree.l ks)) (stN B bs bad c6 a6) := h67
  rw [E.node] at hx
  subst hx hM
  (refine TW.drawE (A := A) false [] _ [(6, [some (.box 3 (.agg [.sl 1 (B.l.l bs), .int .i64 a5, .int .i64 bad])), some (.box 1 (.ref 0 3 0 0)), some (.box 1 (.int .i64 c1)), some (.box 1 (.func (.func 66) [] [.ref 1 1 0 0, .ref 2 1 0 0, .ref 3 1 0 0])), some (.box 4 (.agg [.int .i64 0, .int .i64 0, .str ⟨⟨[]⟩⟩, .nils])), some (.box 4 (.agg [.int .i64 i, .int .i64 k, .str s, .nils]))]), (8, [some (.box 3 (.agg [.sl 1 (B.l.l bs), .int .i64 a6, .int .i64 bad])), some (.box 1 (.ref 0 3 0 0)), some (.box 1 (.int .i64 c6)), some (.box 1 (.func (.func 66) [] [.ref 1 1 0 0, .ref 2 1 0 0, .ref 3 1 0 0])), some (.box 4 (.agg [.int .i64 0, .int .i64 0, .str ⟨⟨[]⟩⟩, .nils])), some (.box 4 (.agg [.int .i64 i, .int .i64 k, .str s, .nils]))])] rfl (T0_ok hP) (hP ▸ follows_mixed) (by kernel_rfl) rfl (by kernel_rfl) (by cbv) (by first | kernel_rfl | cbv) rfl rfl rfl ?_; cbv)
  refine And.intro (Ent.of (hP ▸ Try.func55) rfl) ⟨.int .i64 m, [some (.box 3 (.agg [.sl 1 (B.l.l bs), .int .i64 a5, .int .i64 bad])), some (.box 1 (.ref 0 3 0 0)), some (.box 1 (.int .i64 c1)), some (.box 1 (.func (.func 66) [] [.ref 1 1 0 0, .ref 2 1 0 0, .ref 3 1 0 0])), some (.box 4 (.agg [.int .i64 0, .int .i64 0, .str ⟨⟨[]⟩⟩, .nils])), some (.box 4 (.agg [.int .i64 i, .int .i64 k, .str s, .nils]))], TC1.call [0] h55 ?_, ⟨rfl, ?_⟩⟩
  · skip
    cbv
    (repeat (first | exact trivial | refine And.intro (Emb.Pur _ _) ?_ | refine And.intro rfl ?_ | refine And.intro (Pur.mk rfl) ?_ | refine And.intro (inc_eq A (by omega)) ?_))
  cbv
  refine And.intro (Ent.of (hP ▸ Try.func67) rfl) ⟨.sl 4 (E.tree.l ks), [some (.box 3 (.agg [.sl 1 (B.l.l bs), .int .i64 a6, .int .i64 bad])), some (.box 1 (.ref 0 3 0 0)), some (.box 1 (.int .i64 c6)), some (.box 1 (.func (.func 66) [] [.ref 1 1 0 0, .ref 2 1 0 0, .ref 3 1 0 0])), some (.box 4 (.agg [.int .i64 0, .int .i64 0, .str ⟨⟨[]⟩⟩, .nils])), some (.box 4 (.agg [.int .i64 i, .int .i64 k, .str s, .nils]))], TC1.call [0, 1, 2, 3] h67 ?_, ⟨rfl, ?_⟩⟩
  · skip
    cbv
    (repeat (first | exact trivial | refine And.intro (Emb.Pur _ _) ?_ | refine And.intro rfl ?_ | refine And.intro (Pur.mk rfl) ?_ | refine And.intro (inc_eq A (by omega)) ?_))
  cbv
  ((try cbv) <;> (repeat ((with_reducible refine EW.of ?_); cbv)))
  refine R1.of ?_
  cbv
  (repeat (first | exact trivial | refine And.intro (Emb.Pur _ _) ?_ | refine And.intro rfl ?_ | refine And.intro (Pur.mk rfl) ?_ | refine And.intro (inc_eq A (by omega)) ?_))
end Go.Proofs.Ytmbbdabcbnemiaa
