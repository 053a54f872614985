import Derived.Test.YtaieiigfheabfaaYf
import Derived.Test.YtaieiigfheabfaaYk
/-! The reference's Pair. -/
namespace Go.Proofs.Ytaieiigfheabfaa
open Go.Proofs.Ytaieiigfheabfaa.Tw
theorem copied26 (A : Ar) (E : Em) (F : EmS) {P : Program} (hP : P = Try.prog) (n : Nat) (x : Stp) (hw : within n x.sub) : TPure P 26 [F.l.v x] (F.l.v x) := by
  obtain ⟨op, id, par, pl, tx, i, k, s, ks⟩ := x
  have hc := Copy80 A E hP n _ hw
  rw [F.v E]
  rw [E.node] at hc
  refine TPure.ofE A T0 (T0_ok hP) (hP ▸ Try.func26) rfl _ rfl (by simp) ?_
  cbv
  ((try cbv) <;> (repeat ((with_reducible refine EW.of ?_); cbv)))
  (refine ⟨Ent.of (hP ▸ Try.func44) rfl, ?_⟩; refine TC.pureE hc ?_; cbv; (repeat (first | exact trivial | refine And.intro (Emb.Pur _ _) ?_ | refine And.intro rfl ?_ | refine And.intro (Pur.mk rfl) ?_ | refine And.intro (Pur.mk (by assumption)) ?_)); ((try cbv) <;> (repeat ((with_reducible refine EW.of ?_); cbv))))
  (repeat (first | exact trivial | refine And.intro (Emb.Pur _ _) ?_ | refine And.intro rfl ?_ | refine And.intro (Pur.mk rfl) ?_ | refine And.intro (Pur.mk (by assumption)) ?_))
theorem textTs_no (id : Int) (s : ByteArray) : ∀ ks : List Tree, (textTs id s ks).2 = false → (textTs id s ks).1 = ks
  | [], _ => rfl
  | t :: ts, h => by
    rw [textTs] at h ⊢
    by_cases hd : (textT id s t).2 = true
    · rw [if_pos hd] at h; cases h
    · rw [if_neg hd] at h ⊢
      rw [textTs_no id s ts h]
theorem Em.setU (E : Em) (xs : List Tree) (i : Nat) (x : Tree) : (E.tree.l xs).set i (E.tree.v x) = E.tree.l (xs.set i x) := by rw [E.tree.ok, E.tree.ok, List.map_set]
def missT (id : Int) (s : ByteArray) (ks : List Tree) (j : Nat) : Prop := ∀ (i : Nat) (d : Tree), i < j → ks[i]? = some d → (textT id s d).2 = false
theorem missT.succ {id : Int} {s : ByteArray} {ks : List Tree} {j : Nat} {d : Tree} (h : missT id s ks j) (hd : ks[j]? = some d) (hn : (textT id s d).2 = false) : missT id s ks (j + 1) := fun i e hi he => by
  by_cases hij : i = j
  · subst hij; rw [hd] at he; cases he; exact hn
  · exact h i e (by omega) he
theorem textTs_hit {id : Int} {s : ByteArray} : ∀ {ks : List Tree} {j : Nat} {d : Tree}, missT id s ks j → ks[j]? = some d → (textT id s d).2 = true → textTs id s ks = (ks.set j (textT id s d).1, true)
  | [], j, d, _, h, _ => by simp at h
  | e :: ks, 0, d, _, h, hd => by
    obtain rfl : e = d := by simpa using h
    rw [textTs, if_pos hd]; rfl
  | e :: ks, j + 1, d, hm, h, hd => by
    have he := hm 0 e (by omega) rfl
    rw [textTs, if_neg (by rw [he]; simp), textTs_hit (ks := ks) (j := j) (fun i x hi hx => hm (i + 1) x (by omega) (by simpa using hx)) (by simpa using h) hd]
    rfl
theorem textTs_miss {id : Int} {s : ByteArray} : ∀ {ks : List Tree} {j : Nat}, missT id s ks j → ks.length ≤ j → textTs id s ks = (ks, false)
  | [], j, _, _ => rfl
  | e :: ks, 0, _, h => by simp at h
  | e :: ks, j + 1, hm, h => by
    have he := hm 0 e (by omega) rfl
    rw [textTs, if_neg (by rw [he]; simp), textTs_miss (ks := ks) (j := j) (fun i x hi hx => hm (i + 1) x (by omega) (by simpa using hx)) (by simpa using h)]
set_option maxHeartbeats 2000000 in
theorem with27 (A : Ar) (E : Em) {P : Program} (hP : P = Try.prog) (id : Int) (tx : ByteArray) : ∀ (n : Nat) (t : Tree), within n t → TPure P 27 [E.tree.v t, .int .i64 id, .str tx] (.tup [E.tree.v (textT id tx t).1, .bool (textT id tx t).2]) := by
  intro n
  induction n with
  | zero => exact fun _ h => h.elim
  | succ n ih =>
  intro t hw
  obtain ⟨i, k, s, ks⟩ := t
  have h80 := Copy80 A E hP (n + 1) _ hw
  have h81 := Copy81 A E hP n i k s ks hw
  have hll := E.tree.len ks
  have hwl := hw.len'
  have hlk : A.len (E.tree.l ks) = (ks.length : Int) := by rw [A.ok_len, hll]
  obtain ⟨s2, ks2, rb, e, hy, hno⟩ : ∃ s2 ks2 rb, textT id tx (.node i k s ks) = (.node i k s2 ks2, rb) ∧ (i = id → s2 = tx ∧ ks2 = ks ∧ rb = true) ∧ (i ≠ id → s2 = s ∧ ks2 = (textTs id tx ks).1 ∧ rb = (textTs id tx ks).2) := by
    rw [textT]
    by_cases h : i = id
    · rw [if_pos h]; exact ⟨_, _, _, rfl, fun _ => ⟨rfl, rfl, rfl⟩, fun h' => absurd h h'⟩
    · rw [if_neg h]; exact ⟨_, _, _, rfl, fun h' => absurd h' h, fun _ => ⟨rfl, rfl, rfl⟩⟩
  rw [e]
  dsimp only
  rw [E.node]
  rw [E.node] at h80 ⊢
  rw [E.node] at h81
  have p2 : Tw.Pur [.int .i64 i, .int .i64 k, .str s, .sl 4 (E.tree.l ks)] := Pur.mk (by (repeat (first | exact rfl | exact Emb.purL _ _ | assumption | apply pur_cons | apply pur_sl | apply pur_slt | apply pur_agg | apply pur_tup)))
  by_cases hne : ks = []
  · refine TPure.ofE A T0 (T0_ok hP) (hP ▸ Try.func27) rfl _ rfl (by simp) ?_
    cbv
    ((try cbv) <;> (repeat ((with_reducible refine EW.of ?_); cbv)))
    (refine ⟨Ent.of (hP ▸ Try.func44) rfl, ?_⟩; refine TC.pureE h80 ?_; cbv; (repeat (first | exact trivial | refine And.intro (Emb.Pur _ _) ?_ | refine And.intro rfl ?_ | refine And.intro (Pur.mk rfl) ?_ | refine And.intro (Pur.mk (by assumption)) ?_)); ((try cbv) <;> (repeat ((with_reducible refine EW.of ?_); cbv))))
    refine bsplit (fun h => ?_) (fun h => ?_)
    · have h : i = id := eq_t h rfl rfl
      obtain ⟨rfl, rfl, rfl⟩ := hy h
      ((try cbv) <;> (repeat ((with_reducible refine EW.of ?_); cbv)))
      (repeat (first | exact trivial | refine And.intro (Emb.Pur _ _) ?_ | refine And.intro rfl ?_ | refine And.intro (Pur.mk rfl) ?_ | refine And.intro (Pur.mk (by assumption)) ?_))
    · have h : i ≠ id := eq_f h rfl rfl
      obtain ⟨rfl, hk2, hrb⟩ := hno h
      subst hne
      rw [textTs] at hk2 hrb
      dsimp only at hk2 hrb
      subst hk2 hrb
      ((try cbv) <;> (repeat ((with_reducible refine EW.of ?_); cbv)))
      have hnk : True := trivial
      obtain ⟨S, hS⟩ : ∃ S : LI Unit, S = ⟨fun _ => [(9, .int .i64 0), (8, .ref 1 4 0 0), (6, .ref 0 4 0 0)], fun _ => [some (.box 4 (.agg [.int .i64 0, .int .i64 0, .str ⟨#[]⟩, .nils])), some (.box 4 (.agg [.int .i64 i, .int .i64 k, .str s2, .sl 4 (E.tree.l [])]))], fun _ => True, fun _ => 0⟩ := ⟨_, rfl⟩
      refine TW.loopM A (T0_ok hP) S _ rfl () (by rw [hS]; exact trivial) ?_ ?_
      · rw [hS]
        cbv
        (repeat (first | exact trivial | refine And.intro (Emb.Pur _ _) ?_ | refine And.intro rfl ?_ | refine And.intro p2 ?_ | refine And.intro hnk ?_ | refine And.intro (inc_eq A (by omega)) ?_))
      rintro ⟨⟩ hj l1 L1 e1 e2
      rw [hS] at e1 e2
      dsimp only at e1 e2
      subst e1 e2
      cbv
      ((try cbv) <;> (repeat ((with_reducible refine EW.of ?_); cbv)))
      refine bno (show A.lt 0 (A.len (E.tree.l [])) = false by rw [hlk]; exact ltF (Int.le_refl 0)) ?_
      ((try cbv) <;> (repeat ((with_reducible refine EW.of ?_); cbv)))
      (repeat (first | exact trivial | refine And.intro (Emb.Pur _ _) ?_ | refine And.intro rfl ?_ | refine And.intro (Pur.mk rfl) ?_ | refine And.intro (Pur.mk (by assumption)) ?_))
  · have hc := h81 hne
    obtain ⟨nk, hnk⟩ : ∃ n, n = ks.length := ⟨_, rfl⟩
    rw [← hnk] at hc
    refine TPure.ofE A T0 (T0_ok hP) (hP ▸ Try.func27) rfl _ rfl (by simp) ?_
    cbv
    ((try cbv) <;> (repeat ((with_reducible refine EW.of ?_); cbv)))
    refine ⟨Ent.of (hP ▸ Try.func44) rfl, ?_⟩
    refine TC1.call [] hc ?_
    cbv
    (repeat (first | exact trivial | refine And.intro (Emb.Pur _ _) ?_ | refine And.intro rfl ?_ | refine And.intro (Pur.mk rfl) ?_ | refine And.intro (Pur.mk (by assumption)) ?_))
    ((try cbv) <;> (repeat ((with_reducible refine EW.of ?_); cbv)))
    refine bsplit (fun h => ?_) (fun h => ?_)
    · have h : i = id := eq_t h rfl rfl
      obtain ⟨rfl, rfl, rfl⟩ := hy h
      ((try cbv) <;> (repeat ((with_reducible refine EW.of ?_); cbv)))
      exact ⟨E.tree.cut hnk, E.tree.Pur _, trivial⟩
    · have h : i ≠ id := eq_f h rfl rfl
      obtain ⟨rfl, hk2, hrb⟩ := hno h
      ((try cbv) <;> (repeat ((with_reducible refine EW.of ?_); cbv)))
      obtain ⟨S, hS⟩ : ∃ S : LI Nat, S = ⟨fun j => [(9, .int .i64 j), (8, .ref 2 4 0 0), (6, .ref 0 4 0 0), (1, .int .i64 id), (2, .str tx)], fun _ => [some (.box 4 (.agg [.int .i64 0, .int .i64 0, .str ⟨#[]⟩, .nils])), some (.arr 4 (E.tree.l ks)), some (.box 4 (.agg [.int .i64 i, .int .i64 k, .str s2, .row 1 4 0 nk]))], fun j => j ≤ ks.length ∧ missT id tx ks j, fun j => ks.length - j⟩ := ⟨_, rfl⟩
      refine TW.loopM A (T0_ok hP) S _ rfl 0 ?_ ?_ ?_
      · rw [hS]; exact ⟨Nat.zero_le _, fun i d hi => by omega⟩
      · rw [hS]
        cbv
        (repeat (first | exact trivial | refine And.intro (Emb.Pur _ _) ?_ | refine And.intro rfl ?_ | refine And.intro p2 ?_ | refine And.intro hnk ?_ | refine And.intro (inc_eq A (by omega)) ?_))
      intro j hj l1 L1 e1 e2; rw [hS] at hj e1 e2; dsimp only at hj e1 e2; obtain ⟨hj, hm⟩ := hj; subst e1 e2
      cbv
      ((try cbv) <;> (repeat ((with_reducible refine EW.of ?_); cbv)))
      refine bsplit (fun h => ?_) (fun h => ?_)
      · have h : j < nk := lt_nt h rfl (A.ok_nat nk)
        obtain ⟨t', ht'⟩ : ∃ t', ks[j]? = some t' := ⟨_, List.getElem?_eq_getElem (by omega)⟩
        have hgt := E.tree.get ht'
        have c27 := ih t' (hw.2 t' (List.mem_of_getElem? ht'))
        obtain ⟨i', k', s', ks', ht2⟩ : ∃ i k s ks, t' = Tree.node i k s ks := by cases t'; exact ⟨_, _, _, _, rfl⟩
        have eT : E.tree.v t' = .agg [.int .i64 i', .int .i64 k', .str s', .sl 4 (E.tree.l ks')] := by rw [ht2]; exact E.node ..
        obtain ⟨y, hyy⟩ : ∃ y, y = (textT id tx t').1 := ⟨_, rfl⟩
        obtain ⟨bb, hbb⟩ : ∃ b, b = (textT id tx t').2 := ⟨_, rfl⟩
        rw [← hyy, ← hbb] at c27
        obtain ⟨yi, yk, ys, yks, hy2⟩ : ∃ i k s ks, y = Tree.node i k s ks := by cases y; exact ⟨_, _, _, _, rfl⟩
        have eY : E.tree.v y = .agg [.int .i64 yi, .int .i64 yk, .str ys, .sl 4 (E.tree.l yks)] := by rw [hy2]; exact E.node ..
        have hset := E.setU ks j y
        rw [eY] at hset
        rw [eY] at c27
        rw [eT] at hgt c27
        have p4 : Tw.Pur [.int .i64 i', .int .i64 k', .str s', .sl 4 (E.tree.l ks')] := Pur.mk (by (repeat (first | exact rfl | exact Emb.purL _ _ | assumption | apply pur_cons | apply pur_sl | apply pur_slt | apply pur_agg | apply pur_tup)))
        ((try cbv) <;> (repeat ((with_reducible refine EW.of ?_); cbv)))
        refine ⟨j, rfl, by omega, ?_⟩
        rw [Nat.zero_add]
        cbv
        refine ⟨_, hgt, ?_⟩
        cbv
        (refine ⟨Ent.of (hP ▸ Try.func27) rfl, ?_⟩; refine TC.pureE c27 ?_; cbv; (repeat (first | exact trivial | refine And.intro (Emb.Pur _ _) ?_ | refine And.intro rfl ?_ | refine And.intro (Pur.mk rfl) ?_ | refine And.intro (Pur.mk (by assumption)) ?_)); ((try cbv) <;> (repeat ((with_reducible refine EW.of ?_); cbv))))
        cases bb with
        | true =>
          have hhit := textTs_hit hm ht' hbb.symm
          rw [hhit] at hk2 hrb
          dsimp only at hk2 hrb
          rw [← hyy] at hk2
          have hl2 : ks2.length = ks.length := by rw [hk2, List.length_set]
          rw [← hk2] at hset
          subst hrb
          ((try cbv) <;> (repeat ((with_reducible refine EW.of ?_); cbv)))
          refine ⟨j, rfl, by omega, ?_⟩
          rw [Nat.zero_add]
          cbv
          refine ⟨_, _, hgt, hset.symm, by rfl, ?_⟩
          cbv
          ((try cbv) <;> (repeat ((with_reducible refine EW.of ?_); cbv)))
          exact ⟨E.tree.cut (hnk.trans hl2.symm), E.tree.Pur _, trivial⟩
        | false =>
          ((try cbv) <;> (repeat ((with_reducible refine EW.of ?_); cbv)))
          refine LM.of (j + 1) rfl ?_ ?_ ?_
          · rw [hS]; exact ⟨by omega, missT.succ hm ht' hbb.symm⟩
          · rw [hS]; show ks.length - (j + 1) < ks.length - j; omega
          · rw [hS]
            cbv
            (repeat (first | exact trivial | refine And.intro (Emb.Pur _ _) ?_ | refine And.intro rfl ?_ | refine And.intro p2 ?_ | refine And.intro hnk ?_ | refine And.intro (inc_eq A (by omega)) ?_))
      · have h : nk ≤ j := lt_nf h rfl (A.ok_nat nk)
        have hmiss := textTs_miss hm (by omega)
        rw [hmiss] at hk2 hrb
        subst hk2 hrb
        ((try cbv) <;> (repeat ((with_reducible refine EW.of ?_); cbv)))
        exact ⟨E.tree.cut hnk, E.tree.Pur _, trivial⟩
end Go.Proofs.Ytaieiigfheabfaa
