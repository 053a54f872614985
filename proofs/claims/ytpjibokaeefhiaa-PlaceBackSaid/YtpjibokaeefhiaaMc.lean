import Derived.Test.YtpjibokaeefhiaaMb
/-! The law PlaceCommon, walked. -/
namespace Go.Proofs.Ytpjibokaeefhiaa
open Go.Proofs.Ytpjibokaeefhiaa.Tw
theorem spot_ids {m : Nat} {t : Tree} (h : (walkT m t [] 1).length < m) : spotIds (walkT m t [] 1) = idsT t := by
  rw [walkT_eq m t [] 1 h]
  simp only [List.nil_append, spotIds]
  exact preT_ids t 1
set_option maxHeartbeats 1000000 in
theorem law4 (A : Ar) (E : Em) {P : Program} (hP : P = Try.prog) (t : Tree) (hok : t.ok) (a b : Int) : TPure P 4 [E.tree.v t, .int .i64 a, .int .i64 b] (.bool true) := by
  refine TPure.ofE A T0 (T0_ok hP) (hP ▸ Try.func4) rfl _ rfl (by simp) ?_
  have h23 := Walk23 A hP 201 (by decide) (by decide) t hok
  have h14 := wakes14 A E hP
  have hwl := (walkT_len 201 t [] 1).2 (by simp)
  have hwi := fun h => walk_within (m := 201) (t := t) (by decide) h
  have hsp := fun h => spot_ids (m := 201) (t := t) h
  generalize walkT 201 t [] 1 = l at h23 hwl hwi hsp
  have h24 := apart24 A E hP l (by omega)
  have hcl := fun hn => common_law (t := t) hn a b
  have hcn := common_none t a b
  have h25 := fun hw => Common25 A E hP a b 201 (by decide) t hw
  have h25' := fun hw => Common25 A E hP b a 201 (by decide) t hw
  rw [common_comm t b a] at h25'
  have h21 := fun x y hw => Within21 A hP x y 201 (by decide) t hw
  generalize commonS t a b = c at h25 h25' hcl hcn
  obtain ⟨c1, c2⟩ := c
  have hll := E.spot.len l
  generalize ht : t = t1
  rw [ht] at hsp hcl h21 hwi
  obtain ⟨i, k, s, ks⟩ := t
  subst ht
  simp only [E.av, E.spots, E.node] at h23 h25 h25' h21 ⊢
  cbv
  ((try cbv) <;> (repeat ((with_reducible refine EW.of ?_); cbv)))
  (refine ⟨Ent.of (hP ▸ Try.func23) rfl, ?_⟩; refine TC.pureE h23 ?_; cbv; (repeat (first | exact trivial | refine And.intro (Emb.Pur _ _) ?_ | refine And.intro rfl ?_ | refine And.intro (Pur.mk rfl) ?_ | refine And.intro (Pur.mk (by assumption)) ?_)); ((try cbv) <;> (repeat ((with_reducible refine EW.of ?_); cbv))))
  refine bsplit (fun h => ?_) (fun h => ?_)
  · ((try cbv) <;> (repeat ((with_reducible refine EW.of ?_); cbv)))
    (refine ⟨Ent.of (hP ▸ Try.func14) rfl, ?_⟩; refine TC.pureE h14 ?_; cbv; (repeat (first | exact trivial | refine And.intro (Emb.Pur _ _) ?_ | refine And.intro rfl ?_ | refine And.intro (Pur.mk rfl) ?_ | refine And.intro (Pur.mk (by assumption)) ?_)); ((try cbv) <;> (repeat ((with_reducible refine EW.of ?_); cbv))))
  · have h : (E.spot.l l).length ≤ 200 := lt_nf (i := 200) h rfl (A.ok_len _)
    replace hwi := hwi (by omega)
    replace hsp := hsp (by omega)
    replace h25 := h25 hwi
    replace h25' := h25' hwi
    replace h21 := fun x y => h21 x y hwi
    cbv
    refine ⟨Ent.of (hP ▸ Try.func24) rfl, ?_⟩
    refine TC.pureE h24 ?_
    unfold apartS
    rw [hsp]
    by_cases hn : (idsT (.node i k s ks)).Nodup
    · rw [decide_eq_true hn]
      replace hcl := hcl hn
      cbv
      (repeat (first | exact trivial | refine And.intro (Emb.Pur _ _) ?_ | refine And.intro rfl ?_ | refine And.intro (Pur.mk rfl) ?_ | refine And.intro (Pur.mk (by assumption)) ?_))
      ((try cbv) <;> (repeat ((with_reducible refine EW.of ?_); cbv)))
      (refine ⟨Ent.of (hP ▸ Try.func25) rfl, ?_⟩; refine TC.pureE h25 ?_; cbv; (repeat (first | exact trivial | refine And.intro (Emb.Pur _ _) ?_ | refine And.intro rfl ?_ | refine And.intro (Pur.mk rfl) ?_ | refine And.intro (Pur.mk (by assumption)) ?_)); ((try cbv) <;> (repeat ((with_reducible refine EW.of ?_); cbv))))
      (refine ⟨Ent.of (hP ▸ Try.func25) rfl, ?_⟩; refine TC.pureE h25' ?_; cbv; (repeat (first | exact trivial | refine And.intro (Emb.Pur _ _) ?_ | refine And.intro rfl ?_ | refine And.intro (Pur.mk rfl) ?_ | refine And.intro (Pur.mk (by assumption)) ?_)); ((try cbv) <;> (repeat ((with_reducible refine EW.of ?_); cbv))))
      (first | refine bno (neF rfl) ?_ | refine bno (nbF rfl) ?_)
      cbv
      ((try cbv) <;> (repeat ((with_reducible refine EW.of ?_); cbv)))
      (first | refine bno (neF rfl) ?_ | refine bno (nbF rfl) ?_)
      ((try cbv) <;> (repeat ((with_reducible refine EW.of ?_); cbv)))
      obtain ⟨S, hS⟩ : ∃ S : LI Nat, S = ⟨fun j => [(12, .int .i64 j), (7, .sl 5 (E.spot.l l)), (3, .ref 0 4 0 0), (8, .int .i64 c1), (9, .bool c2), (1, .int .i64 a), (2, .int .i64 b)], fun _ => [some (.box 4 (.agg [.int .i64 i, .int .i64 k, .str s, .sl 4 (E.tree.l ks)]))], fun j => j ≤ l.length, fun j => l.length - j⟩ := ⟨_, rfl⟩
      refine TW.loopM A (T0_ok hP) S 94 rfl 0 ?_ ?_ ?_
      · rw [hS]; exact Nat.zero_le _
      · rw [hS]; cbv; (repeat (first | exact trivial | refine And.intro (Emb.Pur _ _) ?_ | refine And.intro rfl ?_ | refine And.intro (Pur.mk rfl) ?_ | refine And.intro (Pur.mk (by assumption)) ?_))
      intro j hj l1 L1 e1 e2
      rw [hS] at hj e1 e2
      dsimp only at hj e1 e2
      subst e1 e2
      cbv
      ((try cbv) <;> (repeat ((with_reducible refine EW.of ?_); cbv)))
      refine bsplit (fun h2 => ?_) (fun h2 => ?_)
      · have h2 : j < (E.spot.l l).length := lt_nt h2 rfl (A.ok_len _)
        obtain ⟨x, hx⟩ : ∃ x, l[j]? = some x := ⟨_, List.getElem?_eq_getElem (by omega)⟩
        have hmem : x.1.id ∈ idsT (.node i k s ks) := by
          rw [← hsp]
          exact List.mem_map.2 ⟨x, List.mem_of_getElem? hx, rfl⟩
        obtain ⟨⟨i1, k1, s1, ks1⟩, d1⟩ := x
        replace hmem : i1 ∈ idsT (.node i k s ks) := hmem
        replace hcl := hcl i1 hmem
        have ha := h21 i1 a
        have hb := h21 i1 b
        have hc := h21 i1 c1
        dsimp only at hcl
        generalize withinS (.node i k s ks) i1 a = wa at ha hcl
        generalize withinS (.node i k s ks) i1 b = wb at hb hcl
        generalize withinS (.node i k s ks) i1 c1 = wc at hc hcl
        ((try cbv) <;> (repeat ((with_reducible refine EW.of ?_); cbv)))
        refine ⟨j, _, rfl, E.gets hx, ?_⟩
        cbv
        ((try cbv) <;> (repeat ((with_reducible refine EW.of ?_); cbv)))
        (refine ⟨Ent.of (hP ▸ Try.func21) rfl, ?_⟩; refine TC.pureE ha ?_; cbv; (repeat (first | exact trivial | refine And.intro (Emb.Pur _ _) ?_ | refine And.intro rfl ?_ | refine And.intro (Pur.mk rfl) ?_ | refine And.intro (Pur.mk (by assumption)) ?_)); ((try cbv) <;> (repeat ((with_reducible refine EW.of ?_); cbv))))
        cases c2 with
        | true =>
          replace hcl := hcl.1 rfl
          cases wa with
          | true =>
            cbv
            (refine ⟨Ent.of (hP ▸ Try.func21) rfl, ?_⟩; refine TC.pureE hb ?_; cbv; (repeat (first | exact trivial | refine And.intro (Emb.Pur _ _) ?_ | refine And.intro rfl ?_ | refine And.intro (Pur.mk rfl) ?_ | refine And.intro (Pur.mk (by assumption)) ?_)); ((try cbv) <;> (repeat ((with_reducible refine EW.of ?_); cbv))))
            cases wb with
            | true =>
              subst hcl
              cbv
              (refine ⟨Ent.of (hP ▸ Try.func21) rfl, ?_⟩; refine TC.pureE hc ?_; cbv; (repeat (first | exact trivial | refine And.intro (Emb.Pur _ _) ?_ | refine And.intro rfl ?_ | refine And.intro (Pur.mk rfl) ?_ | refine And.intro (Pur.mk (by assumption)) ?_)); ((try cbv) <;> (repeat ((with_reducible refine EW.of ?_); cbv))))
              (first | refine bno (neF rfl) ?_ | refine bno (nbF rfl) ?_)
              ((try cbv) <;> (repeat ((with_reducible refine EW.of ?_); cbv)))
              refine LM.of (j + 1) rfl ?_ ?_ ?_
              · rw [hS]; show j + 1 ≤ l.length; omega
              · rw [hS]; show l.length - (j + 1) < l.length - j; omega
              · rw [hS]; (cbv; (repeat (first | exact trivial | refine And.intro (Emb.Pur _ _) ?_ | refine And.intro rfl ?_ | refine And.intro (Pur.mk rfl) ?_ | refine And.intro (Pur.mk (by assumption)) ?_)); refine And.intro (inc_eq A (by omega)) ?_; (repeat (first | exact trivial | refine And.intro (Emb.Pur _ _) ?_ | refine And.intro rfl ?_ | refine And.intro (Pur.mk rfl) ?_ | refine And.intro (Pur.mk (by assumption)) ?_)))
            | false =>
              subst hcl
              cbv
              (refine ⟨Ent.of (hP ▸ Try.func21) rfl, ?_⟩; refine TC.pureE hc ?_; cbv; (repeat (first | exact trivial | refine And.intro (Emb.Pur _ _) ?_ | refine And.intro rfl ?_ | refine And.intro (Pur.mk rfl) ?_ | refine And.intro (Pur.mk (by assumption)) ?_)); ((try cbv) <;> (repeat ((with_reducible refine EW.of ?_); cbv))))
              (first | refine bno (neF rfl) ?_ | refine bno (nbF rfl) ?_)
              ((try cbv) <;> (repeat ((with_reducible refine EW.of ?_); cbv)))
              refine LM.of (j + 1) rfl ?_ ?_ ?_
              · rw [hS]; show j + 1 ≤ l.length; omega
              · rw [hS]; show l.length - (j + 1) < l.length - j; omega
              · rw [hS]; (cbv; (repeat (first | exact trivial | refine And.intro (Emb.Pur _ _) ?_ | refine And.intro rfl ?_ | refine And.intro (Pur.mk rfl) ?_ | refine And.intro (Pur.mk (by assumption)) ?_)); refine And.intro (inc_eq A (by omega)) ?_; (repeat (first | exact trivial | refine And.intro (Emb.Pur _ _) ?_ | refine And.intro rfl ?_ | refine And.intro (Pur.mk rfl) ?_ | refine And.intro (Pur.mk (by assumption)) ?_)))
          | false =>
            subst hcl
            cbv
            ((try cbv) <;> (repeat ((with_reducible refine EW.of ?_); cbv)))
            (refine ⟨Ent.of (hP ▸ Try.func21) rfl, ?_⟩; refine TC.pureE hc ?_; cbv; (repeat (first | exact trivial | refine And.intro (Emb.Pur _ _) ?_ | refine And.intro rfl ?_ | refine And.intro (Pur.mk rfl) ?_ | refine And.intro (Pur.mk (by assumption)) ?_)); ((try cbv) <;> (repeat ((with_reducible refine EW.of ?_); cbv))))
            (first | refine bno (neF rfl) ?_ | refine bno (nbF rfl) ?_)
            ((try cbv) <;> (repeat ((with_reducible refine EW.of ?_); cbv)))
            refine LM.of (j + 1) rfl ?_ ?_ ?_
            · rw [hS]; show j + 1 ≤ l.length; omega
            · rw [hS]; show l.length - (j + 1) < l.length - j; omega
            · rw [hS]; (cbv; (repeat (first | exact trivial | refine And.intro (Emb.Pur _ _) ?_ | refine And.intro rfl ?_ | refine And.intro (Pur.mk rfl) ?_ | refine And.intro (Pur.mk (by assumption)) ?_)); refine And.intro (inc_eq A (by omega)) ?_; (repeat (first | exact trivial | refine And.intro (Emb.Pur _ _) ?_ | refine And.intro rfl ?_ | refine And.intro (Pur.mk rfl) ?_ | refine And.intro (Pur.mk (by assumption)) ?_)))
        | false =>
          replace hcl := hcl.2 rfl
          cases wa with
          | true =>
            cbv
            (refine ⟨Ent.of (hP ▸ Try.func21) rfl, ?_⟩; refine TC.pureE hb ?_; cbv; (repeat (first | exact trivial | refine And.intro (Emb.Pur _ _) ?_ | refine And.intro rfl ?_ | refine And.intro (Pur.mk rfl) ?_ | refine And.intro (Pur.mk (by assumption)) ?_)); ((try cbv) <;> (repeat ((with_reducible refine EW.of ?_); cbv))))
            cases wb with
            | true => cases hcl
            | false =>
              cbv
              ((try cbv) <;> (repeat ((with_reducible refine EW.of ?_); cbv)))
              refine LM.of (j + 1) rfl ?_ ?_ ?_
              · rw [hS]; show j + 1 ≤ l.length; omega
              · rw [hS]; show l.length - (j + 1) < l.length - j; omega
              · rw [hS]; (cbv; (repeat (first | exact trivial | refine And.intro (Emb.Pur _ _) ?_ | refine And.intro rfl ?_ | refine And.intro (Pur.mk rfl) ?_ | refine And.intro (Pur.mk (by assumption)) ?_)); refine And.intro (inc_eq A (by omega)) ?_; (repeat (first | exact trivial | refine And.intro (Emb.Pur _ _) ?_ | refine And.intro rfl ?_ | refine And.intro (Pur.mk rfl) ?_ | refine And.intro (Pur.mk (by assumption)) ?_)))
          | false =>
            cbv
            ((try cbv) <;> (repeat ((with_reducible refine EW.of ?_); cbv)))
            refine LM.of (j + 1) rfl ?_ ?_ ?_
            · rw [hS]; show j + 1 ≤ l.length; omega
            · rw [hS]; show l.length - (j + 1) < l.length - j; omega
            · rw [hS]; (cbv; (repeat (first | exact trivial | refine And.intro (Emb.Pur _ _) ?_ | refine And.intro rfl ?_ | refine And.intro (Pur.mk rfl) ?_ | refine And.intro (Pur.mk (by assumption)) ?_)); refine And.intro (inc_eq A (by omega)) ?_; (repeat (first | exact trivial | refine And.intro (Emb.Pur _ _) ?_ | refine And.intro rfl ?_ | refine And.intro (Pur.mk rfl) ?_ | refine And.intro (Pur.mk (by assumption)) ?_)))
      · have h2 : (E.spot.l l).length ≤ j := lt_nf h2 rfl (A.ok_len _)
        ((try cbv) <;> (repeat ((with_reducible refine EW.of ?_); cbv)))
        cases c2 with
        | true =>
          cbv
          (refine ⟨Ent.of (hP ▸ Try.func14) rfl, ?_⟩; refine TC.pureE h14 ?_; cbv; (repeat (first | exact trivial | refine And.intro (Emb.Pur _ _) ?_ | refine And.intro rfl ?_ | refine And.intro (Pur.mk rfl) ?_ | refine And.intro (Pur.mk (by assumption)) ?_)); ((try cbv) <;> (repeat ((with_reducible refine EW.of ?_); cbv))))
        | false =>
          obtain rfl : c1 = 0 := by simpa using hcn
          cbv
          (first | refine byes (eqT rfl) ?_ | refine byes (beqT rfl) ?_)
          cbv
          (refine ⟨Ent.of (hP ▸ Try.func14) rfl, ?_⟩; refine TC.pureE h14 ?_; cbv; (repeat (first | exact trivial | refine And.intro (Emb.Pur _ _) ?_ | refine And.intro rfl ?_ | refine And.intro (Pur.mk rfl) ?_ | refine And.intro (Pur.mk (by assumption)) ?_)); ((try cbv) <;> (repeat ((with_reducible refine EW.of ?_); cbv))))
    · rw [decide_eq_false hn]
      cbv
      (repeat (first | exact trivial | refine And.intro (Emb.Pur _ _) ?_ | refine And.intro rfl ?_ | refine And.intro (Pur.mk rfl) ?_ | refine And.intro (Pur.mk (by assumption)) ?_))
      ((try cbv) <;> (repeat ((with_reducible refine EW.of ?_); cbv)))
      (refine ⟨Ent.of (hP ▸ Try.func14) rfl, ?_⟩; refine TC.pureE h14 ?_; cbv; (repeat (first | exact trivial | refine And.intro (Emb.Pur _ _) ?_ | refine And.intro rfl ?_ | refine And.intro (Pur.mk rfl) ?_ | refine And.intro (Pur.mk (by assumption)) ?_)); ((try cbv) <;> (repeat ((with_reducible refine EW.of ?_); cbv))))
end Go.Proofs.Ytpjibokaeefhiaa
