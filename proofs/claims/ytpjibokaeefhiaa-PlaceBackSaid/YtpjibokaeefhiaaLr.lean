import Derived.Test.YtpjibokaeefhiaaLq
/-! above, first: rounds over an iterator. -/
namespace Go.Proofs.Ytpjibokaeefhiaa
open Go.Proofs.Ytpjibokaeefhiaa.Tw
theorem Above58S (A : Ar) (E : Em) {P : Program} (hP : P = Try.prog) (i k : Int) (s : ByteArray) (ks : List Tree) (id : Int) : TC1 P 58 [.agg [.int .i64 i, .int .i64 k, .str s, .sl 4 (E.tree.l ks)], .int .i64 id] []
    (.func (.func 78) [] [.ref 0 4 0 0, .ref 1 1 0 0]) [some (.box 4 (.agg [.int .i64 i, .int .i64 k, .str s, .sl 4 (E.tree.l ks)])), some (.box 1 (.int .i64 id))] := by
  refine TC1.of A _ _ T0 (T0_ok hP) (hP ▸ Try.func58) rfl _ rfl (by simp) ?_
  cbv
  ((try cbv) <;> (repeat ((with_reducible refine EW.of ?_); cbv)))
  refine R1.of ?_
  cbv
  (repeat (first | exact trivial | refine And.intro (Emb.Pur _ _) ?_ | refine And.intro rfl ?_ | refine And.intro (Pur.mk rfl) ?_ | refine And.intro (Pur.mk (by assumption)) ?_))
theorem Backward79S (A : Ar) (E : Em) {P : Program} (hP : P = Try.prog) (l : List Int) : TC1 P 79 [.sl 1 (E.int.l l)] [] (.func (.func 83) [] [.ref 0 1 0 0]) [some (.box 1 (.sl 1 (E.int.l l)))] := by
  refine TC1.of A _ _ T0 (T0_ok hP) (hP ▸ Try.func79) rfl _ rfl (by simp) ?_
  cbv
  ((try cbv) <;> (repeat ((with_reducible refine EW.of ?_); cbv)))
  refine R1.of ?_
  cbv
  (repeat (first | exact trivial | refine And.intro (Emb.Pur _ _) ?_ | refine And.intro rfl ?_ | refine And.intro (Pur.mk rfl) ?_ | refine And.intro (Pur.mk (by assumption)) ?_))
def orNil (o : Option (List Int)) : List Int := o.getD []
theorem pred_of {m : Nat} {v : Int} (hv : v = (m : Int) - 1) (h : 0 ≤ v) : ∃ m' : Nat, m = m' + 1 ∧ v = (m' : Int) := ⟨m - 1, by omega, by omega⟩
theorem zero_of {m : Nat} {v : Int} (hv : v = (m : Int) - 1) (h : v < 0) : m = 0 := by omega
theorem dec_eq (A : Ar) {v v1 : Int} {m : Nat} (hv : v = (m : Int)) (hv1 : v1 = (m : Int) - 1) (h : m < 9223372036854775807) : A.op .sub .i64 v 1 = v1 := (sub_i64 (A := A) hv (rfl : (1 : Int) = 1) (by omega) (by omega)).trans hv1.symm
/-- The objects in a round: the row so far. -/
def stA (E : Em) (L : Store) : Option (Nat × List Int) → Store
  | none => L
  | some (dn, done) => L.set 1 (some (.box 1 (.row 9 1 0 dn))) ++ [some (.arr 1 (E.int.l done))]
def invA (r : List Int) (f : Nat → List Int) (m : Nat) : Option (Nat × List Int) → Prop
  | none => f m = r
  | some (dn, done) => dn = done.length ∧ done ++ f m = r ∧ dn + m ≤ 1000000
theorem above19 (A : Ar) (E : Em) {P : Program} (hP : P = Try.prog) (id : Int) (n : Nat) (hn : n ≤ 1000000) (t : Tree) (hw : within n t) : TPure P 19 [E.tree.v t, .int .i64 id] (.sl 1 (E.int.l (aboveS t id))) := by
  refine TPure.ofE A T0 (T0_ok hP) (hP ▸ Try.func19) rfl _ rfl (by simp) ?_
  have h26 := Path26 A hP id n hn t hw
  have hpl : ((pathT id t).getD []).length ≤ 1000000 := by
    have := fun p => pathT_len id t n p hw
    cases hq : pathT id t with
    | none => simp
    | some p => have := this p hq; simp; omega
  have h57 := fun p hp => at57 A hP n t hw p hp
  simp only [E.av, E.ints] at h57
  obtain ⟨i, k, s, ks⟩ := t
  have h58 := Above58S A E hP i k s ks id
  simp only [E.av, pathAV, E.ints] at h26
  simp only [E.node] at h26 h57 h58 ⊢
  generalize hr : aboveS (.node i k s ks) id = r
  generalize hp : (pathT id (.node i k s ks)).getD [] = p at h26 hpl
  generalize (pathT id (.node i k s ks)).isSome = ob at h26
  have hrp : upIds (.node i k s ks) p p.length = r := by
    rw [← hr, ← hp]
    unfold aboveS
    cases pathT id (.node i k s ks) <;> rfl
  have h79 := Backward79S A E hP p
  cbv
  ((try cbv) <;> (repeat ((with_reducible refine EW.of ?_); cbv)))
  refine ⟨Ent.of (hP ▸ Try.func58) rfl, ?_⟩
  refine TC1.call [] h58 ?_
  cbv
  (repeat (first | exact trivial | refine And.intro (Emb.Pur _ _) ?_ | refine And.intro rfl ?_ | refine And.intro (Pur.mk rfl) ?_ | refine And.intro (Pur.mk (by assumption)) ?_))
  ((try cbv) <;> (repeat ((with_reducible refine EW.of ?_); cbv)))
  refine TW.range rfl rfl (Ent.of (hP ▸ Try.func78) rfl) ?_
  refine TC.of_ewp A T0 (T0_ok hP) (hP ▸ Try.func78) rfl _ rfl (by simp) ?_
  cbv
  ((try cbv) <;> (repeat ((with_reducible refine EW.of ?_); cbv)))
  refine ⟨Ent.of (hP ▸ Try.func26) rfl, ?_⟩
  refine TC.pureE h26 ?_
  cbv
  (repeat (first | exact trivial | refine And.intro (Emb.Pur _ _) ?_ | refine And.intro rfl ?_ | refine And.intro (Pur.mk rfl) ?_ | refine And.intro (Pur.mk (by assumption)) ?_))
  ((try cbv) <;> (repeat ((with_reducible refine EW.of ?_); cbv)))
  refine ⟨Ent.of (hP ▸ Try.func79) rfl, ?_⟩
  refine TC1.call [] h79 ?_
  cbv
  (repeat (first | exact trivial | refine And.intro (Emb.Pur _ _) ?_ | refine And.intro rfl ?_ | refine And.intro (Pur.mk rfl) ?_ | refine And.intro (Pur.mk (by assumption)) ?_))
  ((try cbv) <;> (repeat ((with_reducible refine EW.of ?_); cbv)))
  refine TW.range rfl rfl (Ent.of (hP ▸ Try.func83) rfl) ?_
  refine TC.of_ewp A T0 (T0_ok hP) (hP ▸ Try.func83) rfl _ rfl (by simp) ?_
  cbv
  ((try cbv) <;> (repeat ((with_reducible refine EW.of ?_); cbv)))
  obtain ⟨S, hS⟩ : ∃ S : Store → LI (Int × Nat × Option (Nat × List Int)), S = fun L => ⟨fun x => [(3, .int .i64 x.1), (0, .yield 8), (1, .ref 7 1 0 0)], fun x => stA E L x.2.2,
    fun x => x.1 = (x.2.1 : Int) - 1 ∧ x.2.1 ≤ p.length ∧ invA r (upIds (.node i k s ks) p) x.2.1 x.2.2, fun x => x.2.1⟩ := ⟨_, rfl⟩
  have hlp := E.int.len p
  obtain ⟨v0, hv0⟩ : ∃ v0 : Int, v0 = (p.length : Int) - 1 := ⟨_, rfl⟩
  refine TW.loopL A (T0_ok hP) S 19 rfl (v0, p.length, none) ?_ ?_ ?_
  · rw [hS]; exact ⟨hv0, Nat.le_refl _, hrp⟩
  · rw [hS]; cbv; (repeat (first | exact trivial | refine And.intro (Emb.Pur _ _) ?_ | refine And.intro rfl ?_ | refine And.intro (Pur.mk rfl) ?_ | refine And.intro (Pur.mk (by assumption)) ?_))
    refine ⟨(sub_i64 (A := A) (A.ok_len _) (rfl : (1 : Int) = 1) (by rw [hlp]; omega) (by rw [hlp]; omega)).trans (by rw [hlp, hv0]), trivial⟩
  rintro ⟨v, m, o1⟩ hj I l1 L1 e0 e1 e2
  rw [hS] at hj e1 e2
  obtain ⟨hv, hm, hinv⟩ := hj
  dsimp only at hv hm hinv e1 e2
  subst e1
  cases o1 with
  | none =>
    dsimp only [stA] at e2
    subst e2
    cbv
    ((try cbv) <;> (repeat ((with_reducible refine EW.of ?_); cbv)))
    refine bsplit (fun h => ?_) (fun h => ?_)
    · have h : (0 : Int) ≤ v := le_t h rfl rfl
      obtain ⟨m, rfl, hvm⟩ := pred_of hv h
      obtain ⟨x, hx⟩ : ∃ x, p[m]? = some x := ⟨_, List.getElem?_eq_getElem (by omega)⟩
      ((try cbv) <;> (repeat ((with_reducible refine EW.of ?_); cbv)))
      refine ⟨m, _, hvm, E.geti hx, ?_⟩
      cbv
      ((try cbv) <;> (repeat ((with_reducible refine EW.of ?_); cbv)))
      refine YW.of fun k0 => ?_
      cbv
      ((try cbv) <;> (repeat ((with_reducible refine EW.of ?_); cbv)))
      have h57 := h57 (p.take m) (by simp; omega)
      have hid : (upT (.node i k s ks) p m).id = ((atT (.node i k s ks) (p.take m)).getD t0).id := rfl
      generalize atT (.node i k s ks) (p.take m) = o at h57 hid
      simp only [atAV] at h57
      generalize o.getD t0 = u at h57 hid
      generalize o.isSome = ob2 at h57
      obtain ⟨i2, k2, s2, ks2⟩ := u
      simp only [E.av, E.node] at h57
      replace hid : (upT (.node i k s ks) p m).id = i2 := hid
      (refine TW.drawP (A := A) [(9, [some (.box 4 (.agg [.int .i64 0, .int .i64 0, .str ⟨⟨[]⟩⟩, .nils]))]), (10, [some (.box 4 (.agg [.int .i64 i2, .int .i64 k2, .str s2, .sl 4 (E.tree.l ks2)]))])] (T0_ok hP) (hP ▸ follows_mixed) (by cbv) rfl (by cbv) (by cbv) (by cbv) rfl rfl rfl ?_; cbv)
      refine ⟨m, hvm, m, hvm, rfl, E.int.l (p.take m), (E.int.take p m).symm, Nat.zero_le _, by rw [hlp]; omega, ?_⟩
      cbv
      refine ⟨Ent.of (hP ▸ Try.func57) rfl, ?_⟩
      refine ⟨_, ⟨TPure.adj h57 (by cbv; (repeat (first | exact trivial | refine And.intro (Emb.Pur _ _) ?_ | refine And.intro rfl ?_ | refine And.intro (Pur.mk rfl) ?_ | refine And.intro (Pur.mk (by assumption)) ?_))), by (repeat (first | exact rfl | exact Emb.purL _ _ | assumption | apply pur_cons | apply pur_sl | apply pur_slt | apply pur_agg | apply pur_tup))⟩, ?_⟩
      cbv
      refine ⟨rfl, rfl, ?_⟩
      ((try cbv) <;> (repeat ((with_reducible refine EW.of ?_); cbv)))
      refine YW.of fun k1 => ?_
      cbv
      ((try cbv) <;> (repeat ((with_reducible refine EW.of ?_); cbv)))
      obtain ⟨dn1, hdn1⟩ : ∃ n : Nat, n = 1 := ⟨_, rfl⟩
      obtain ⟨done1, hd1⟩ : ∃ l : List Int, l = [i2] := ⟨_, rfl⟩
      have hinv1 : invA r (upIds (.node i k s ks) p) m (some (dn1, done1)) := ⟨by rw [hdn1, hd1]; rfl, by rw [hd1, ← hid]; exact hinv, by omega⟩
      refine ⟨⟨rfl⟩, dn1, E.int.l done1, hdn1, by rw [hd1, E.int.cons, E.int.nil, E.iv]; rfl, Nat.zero_le _, by omega, by omega, ?_⟩
      cbv
      ((try cbv) <;> (repeat ((with_reducible refine EW.of ?_); cbv)))
      obtain ⟨v1, hv1⟩ : ∃ v1 : Int, v1 = (m : Int) - 1 := ⟨_, rfl⟩
      refine LM.of (v1, m, some (dn1, done1)) rfl ?_ ?_ ?_
      · rw [e0, hS]; exact ⟨hv1, Nat.le_of_succ_le hm, hinv1⟩
      · rw [e0, hS]; exact Nat.lt_succ_self m
      · rw [e0, hS]; cbv; (repeat (first | exact trivial | refine And.intro (Emb.Pur _ _) ?_ | refine And.intro rfl ?_ | refine And.intro (Pur.mk rfl) ?_ | refine And.intro (Pur.mk (by assumption)) ?_))
        exact ⟨dec_eq A hvm hv1 (by omega), trivial⟩
    · have h : v < 0 := le_f h rfl rfl
      have hm0 := zero_of hv h
      subst hm0
      replace hinv : [] = r := hinv
      subst hinv
      ((try cbv) <;> (repeat ((with_reducible refine EW.of ?_); cbv)))
      (refine ⟨_, _, VSV.refl _ _ _, ?_⟩; cbv; repeat ((with_reducible refine EW.of ?_); cbv))
      (refine ⟨_, _, VSV.refl _ _ _, ?_⟩; cbv; repeat ((with_reducible refine EW.of ?_); cbv))
      exact ⟨E.int.nil.symm, trivial⟩
  | some x =>
    obtain ⟨dn, done⟩ := x
    dsimp only [stA] at e2
    subst e2
    cbv
    ((try cbv) <;> (repeat ((with_reducible refine EW.of ?_); cbv)))
    refine bsplit (fun h => ?_) (fun h => ?_)
    · have h : (0 : Int) ≤ v := le_t h rfl rfl
      obtain ⟨m, rfl, hvm⟩ := pred_of hv h
      obtain ⟨x, hx⟩ : ∃ x, p[m]? = some x := ⟨_, List.getElem?_eq_getElem (by omega)⟩
      ((try cbv) <;> (repeat ((with_reducible refine EW.of ?_); cbv)))
      refine ⟨m, _, hvm, E.geti hx, ?_⟩
      cbv
      ((try cbv) <;> (repeat ((with_reducible refine EW.of ?_); cbv)))
      refine YW.of fun k0 => ?_
      cbv
      ((try cbv) <;> (repeat ((with_reducible refine EW.of ?_); cbv)))
      have h57 := h57 (p.take m) (by simp; omega)
      have hid : (upT (.node i k s ks) p m).id = ((atT (.node i k s ks) (p.take m)).getD t0).id := rfl
      generalize atT (.node i k s ks) (p.take m) = o at h57 hid
      simp only [atAV] at h57
      generalize o.getD t0 = u at h57 hid
      generalize o.isSome = ob2 at h57
      obtain ⟨i2, k2, s2, ks2⟩ := u
      simp only [E.av, E.node] at h57
      replace hid : (upT (.node i k s ks) p m).id = i2 := hid
      (refine TW.drawP (A := A) [(9, [some (.box 4 (.agg [.int .i64 0, .int .i64 0, .str ⟨⟨[]⟩⟩, .nils]))]), (10, [some (.box 4 (.agg [.int .i64 i2, .int .i64 k2, .str s2, .sl 4 (E.tree.l ks2)]))])] (T0_ok hP) (hP ▸ follows_mixed) (by cbv) rfl (by cbv) (by cbv) (by cbv) rfl rfl rfl ?_; cbv)
      refine ⟨m, hvm, m, hvm, rfl, E.int.l (p.take m), (E.int.take p m).symm, Nat.zero_le _, by rw [hlp]; omega, ?_⟩
      cbv
      refine ⟨Ent.of (hP ▸ Try.func57) rfl, ?_⟩
      refine ⟨_, ⟨TPure.adj h57 (by cbv; (repeat (first | exact trivial | refine And.intro (Emb.Pur _ _) ?_ | refine And.intro rfl ?_ | refine And.intro (Pur.mk rfl) ?_ | refine And.intro (Pur.mk (by assumption)) ?_))), by (repeat (first | exact rfl | exact Emb.purL _ _ | assumption | apply pur_cons | apply pur_sl | apply pur_slt | apply pur_agg | apply pur_tup))⟩, ?_⟩
      cbv
      refine ⟨rfl, rfl, ?_⟩
      ((try cbv) <;> (repeat ((with_reducible refine EW.of ?_); cbv)))
      refine YW.of fun k1 => ?_
      cbv
      ((try cbv) <;> (repeat ((with_reducible refine EW.of ?_); cbv)))
      obtain ⟨dn1, hdn1⟩ : ∃ n : Nat, n = dn + 1 := ⟨_, rfl⟩
      obtain ⟨done1, hd1⟩ : ∃ l : List Int, l = done ++ [i2] := ⟨_, rfl⟩
      have hinv1 : invA r (upIds (.node i k s ks) p) m (some (dn1, done1)) := ⟨by rw [hdn1, hd1, hinv.1]; simp, by rw [hd1, ← hid, ← hinv.2.1]; simp [upIds], by have := hinv.2.2; omega⟩
      refine ⟨⟨rfl⟩, dn1, E.int.l done1, hdn1, by rw [hd1, E.int.app, E.int.cons, E.int.nil, E.iv, hinv.1]; simp [E.int.take], by rw [E.int.len, hinv.1]; exact Nat.le_refl _, ?_, ?_, ?_⟩
      · have := hinv.2.2; omega
      · have := hinv.2.2; omega
      cbv
      ((try cbv) <;> (repeat ((with_reducible refine EW.of ?_); cbv)))
      obtain ⟨v1, hv1⟩ : ∃ v1 : Int, v1 = (m : Int) - 1 := ⟨_, rfl⟩
      refine LM.of (v1, m, some (dn1, done1)) rfl ?_ ?_ ?_
      · rw [e0, hS]; exact ⟨hv1, Nat.le_of_succ_le hm, hinv1⟩
      · rw [e0, hS]; exact Nat.lt_succ_self m
      · rw [e0, hS]; cbv; (repeat (first | exact trivial | refine And.intro (Emb.Pur _ _) ?_ | refine And.intro rfl ?_ | refine And.intro (Pur.mk rfl) ?_ | refine And.intro (Pur.mk (by assumption)) ?_))
        exact ⟨dec_eq A hvm hv1 (by omega), trivial⟩
    · have h : v < 0 := le_f h rfl rfl
      have hm0 := zero_of hv h
      subst hm0
      obtain ⟨hdn, hinv, _⟩ := hinv
      replace hinv : done ++ [] = r := hinv
      rw [List.append_nil] at hinv
      subst hinv
      ((try cbv) <;> (repeat ((with_reducible refine EW.of ?_); cbv)))
      (refine ⟨_, _, VSV.refl _ _ _, ?_⟩; cbv; repeat ((with_reducible refine EW.of ?_); cbv))
      (refine ⟨_, _, VSV.refl _ _ _, ?_⟩; cbv; repeat ((with_reducible refine EW.of ?_); cbv))
      exact ⟨E.int.cut hdn, E.int.Pur _, trivial⟩
end Go.Proofs.Ytpjibokaeefhiaa
