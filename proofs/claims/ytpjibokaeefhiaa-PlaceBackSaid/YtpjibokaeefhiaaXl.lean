import Derived.Test.YtpjibokaeefhiaaXk
import Derived.Test.YtpjibokaeefhiaaNc
import Derived.Test.YtpjibokaeefhiaaLv
/-! The law PlaceBack, walked. -/
namespace Go.Proofs.Ytpjibokaeefhiaa
open Go.Proofs.Ytpjibokaeefhiaa.Tw
set_option maxHeartbeats 2000000 in
theorem law2 (A : Ar) (E : Em) {P : Program} (hP : P = Try.prog) (t : Tree) (hok : t.ok) (a b : Int) : TPure P 7 [E.tree.v t, .int .i64 a, .int .i64 b] (.bool true) := by
  refine TPure.ofE A T0 (T0_ok hP) (hP ▸ Try.func7) rfl _ rfl (by simp) ?_
  have h23 := Walk23 A hP 201 (by decide) (by decide) t hok
  have h14 := wakes14 A E hP
  have hwl := (walkT_len 201 t [] 1).2 (by simp)
  have hwi := fun h => walk_within (m := 201) (t := t) (by decide) h
  have hsp := fun h => spot_ids (m := 201) (t := t) h
  have hwe := fun h => walkT_eq 201 t [] 1 h
  generalize walkT 201 t [] 1 = l at h23 hwl hwi hsp hwe
  have h24 := apart24 A E hP l (by omega)
  have hfi := Find34 A E hP a t hok
  have hfb := Find34 A E hP b t hok
  obtain ⟨po, hpo, hokp⟩ := pathO a t
  have h26 := fun hw => Path26 A hP a 201 (by decide) t hw
  have h21 := fun x y hw => Within21 A hP x y 201 (by decide) t hw
  have h19 := fun hw => above19 A E hP b 201 (by decide) t hw
  have hll := E.spot.len l
  obtain ⟨up, hup⟩ : ∃ up, up = aboveS t b := ⟨_, rfl⟩
  rw [← hup] at h19
  obtain ⟨i, k, s, ks, htt⟩ : ∃ i k s ks, t = Tree.node i k s ks := by cases t; exact ⟨_, _, _, _, rfl⟩
  have eT : E.tree.v t = .agg [.int .i64 i, .int .i64 k, .str s, .sl 4 (E.tree.l ks)] := by rw [htt]; exact E.node ..
  simp only [E.av, E.spots, E.ints, pathAV] at h23 h26 h21 hfi hfb h19
  rw [eT] at h23 h26 h21 h19 hfi hfb ⊢
  cbv
  ((try cbv) <;> (repeat ((with_reducible refine EW.of ?_); cbv)))
  (refine ⟨Ent.of (hP ▸ Try.func23) rfl, ?_⟩; refine TC.pureE h23 ?_; cbv; (repeat (first | exact trivial | refine And.intro (Emb.Pur _ _) ?_ | refine And.intro rfl ?_ | refine And.intro (Pur.mk rfl) ?_ | refine And.intro (Pur.mk (by assumption)) ?_)); ((try cbv) <;> (repeat ((with_reducible refine EW.of ?_); cbv))))
  refine bsplit (fun h => ?_) (fun h => ?_)
  · ((try cbv) <;> (repeat ((with_reducible refine EW.of ?_); cbv)))
    (refine ⟨Ent.of (hP ▸ Try.func14) rfl, ?_⟩; refine TC.pureE h14 ?_; cbv; (repeat (first | exact trivial | refine And.intro (Emb.Pur _ _) ?_ | refine And.intro rfl ?_ | refine And.intro (Pur.mk rfl) ?_ | refine And.intro (Pur.mk (by assumption)) ?_)); ((try cbv) <;> (repeat ((with_reducible refine EW.of ?_); cbv))))
  · have h : (E.spot.l l).length ≤ 200 := lt_nf (i := 200) h rfl (A.ok_len _)
    replace hwi := hwi (by omega)
    replace hsp := hsp (by omega)
    replace hwe := hwe (by omega)
    replace h26 := h26 hwi
    replace h21 := fun x y => h21 x y hwi
    replace h19 := h19 hwi
    cbv
    refine ⟨Ent.of (hP ▸ Try.func24) rfl, ?_⟩
    refine TC.pureE h24 ?_
    unfold apartS
    rw [hsp]
    by_cases hn : (idsT t).Nodup
    · rw [decide_eq_true hn]
      cbv
      (repeat (first | exact trivial | refine And.intro (Emb.Pur _ _) ?_ | refine And.intro rfl ?_ | refine And.intro (Pur.mk rfl) ?_ | refine And.intro (Pur.mk (by assumption)) ?_))
      ((try cbv) <;> (repeat ((with_reducible refine EW.of ?_); cbv)))
      have hw2 : walkT 2000 t [] 1 = preT t 1 := walk_all 2000 t [] 1 (by
        have := congrArg List.length hwe
        simp only [List.nil_append] at this
        simp only [List.length_nil]
        omega)
      rw [hw2] at hfi hfb
      obtain ⟨f1, f2⟩ := first_pre a t 1
      obtain ⟨fb1, fb2⟩ := first_pre b t 1
      rw [hpo] at f1 f2 h26
      cases po with
      | none =>
        rw [f2 rfl] at hfi
        have hp := PutX A E hP a 201 (by decide) t hwi t0 (within_mono (n := 1) (by decide) ⟨by simp, fun t ht => by cases ht⟩) none hpo hokp
        have hab := h21 a b
        have hba := h21 b a
        rw [show withinS t a b = false from by unfold withinS; rw [hpo]; rfl] at hab
        rw [show withinS t b a = false from by unfold withinS; rw [hpo]; cases pathT b t <;> rfl] at hba
        rw [eT, show E.tree.v (putO a t t0 none).1 = E.tree.v t0 from rfl, show (putO a t t0 none).2 = 4 from rfl] at hp
        simp only [Option.getD_none, Option.isSome_none, Option.map_none, t0, E.node, E.tree.nil, E.int.nil] at hfi hp h26
        (refine ⟨Ent.of (hP ▸ Try.func26) rfl, ?_⟩; refine TC.pureE h26 ?_; cbv; (repeat (first | exact trivial | refine And.intro (Emb.Pur _ _) ?_ | refine And.intro rfl ?_ | refine And.intro (Pur.mk rfl) ?_ | refine And.intro (Pur.mk (by assumption)) ?_)); ((try cbv) <;> (repeat ((with_reducible refine EW.of ?_); cbv))))
        (refine ⟨Ent.of (hP ▸ Try.func34) rfl, ?_⟩; refine TC.pureE hfi ?_; cbv; (repeat (first | exact trivial | refine And.intro (Emb.Pur _ _) ?_ | refine And.intro rfl ?_ | refine And.intro (Pur.mk rfl) ?_ | refine And.intro (Pur.mk (by assumption)) ?_)); ((try cbv) <;> (repeat ((with_reducible refine EW.of ?_); cbv))))
        (first | refine bno (neF rfl) ?_ | refine bno (nbF rfl) ?_)
        cbv
        ((try cbv) <;> (repeat ((with_reducible refine EW.of ?_); cbv)))
        (refine ⟨Ent.of (hP ▸ Try.func32) rfl, ?_⟩; refine TC.pureE hp ?_; cbv; (repeat (first | exact trivial | refine And.intro (Emb.Pur _ _) ?_ | refine And.intro rfl ?_ | refine And.intro (Pur.mk rfl) ?_ | refine And.intro (Pur.mk (by assumption)) ?_)); ((try cbv) <;> (repeat ((with_reducible refine EW.of ?_); cbv))))
        (first | refine byes (eqT rfl) ?_ | refine byes (beqT rfl) ?_)
        ((try cbv) <;> (repeat ((with_reducible refine EW.of ?_); cbv)))
        (refine ⟨Ent.of (hP ▸ Try.func21) rfl, ?_⟩; refine TC.pureE hab ?_; cbv; (repeat (first | exact trivial | refine And.intro (Emb.Pur _ _) ?_ | refine And.intro rfl ?_ | refine And.intro (Pur.mk rfl) ?_ | refine And.intro (Pur.mk (by assumption)) ?_)); ((try cbv) <;> (repeat ((with_reducible refine EW.of ?_); cbv))))
        (refine ⟨Ent.of (hP ▸ Try.func21) rfl, ?_⟩; refine TC.pureE hba ?_; cbv; (repeat (first | exact trivial | refine And.intro (Emb.Pur _ _) ?_ | refine And.intro rfl ?_ | refine And.intro (Pur.mk rfl) ?_ | refine And.intro (Pur.mk (by assumption)) ?_)); ((try cbv) <;> (repeat ((with_reducible refine EW.of ?_); cbv))))
        (refine ⟨Ent.of (hP ▸ Try.func14) rfl, ?_⟩; refine TC.pureE h14 ?_; cbv; (repeat (first | exact trivial | refine And.intro (Emb.Pur _ _) ?_ | refine And.intro rfl ?_ | refine And.intro (Pur.mk rfl) ?_ | refine And.intro (Pur.mk (by assumption)) ?_)); ((try cbv) <;> (repeat ((with_reducible refine EW.of ?_); cbv))))
      | some p =>
        obtain ⟨u, hu, hfu⟩ := f1 _ rfl
        rw [hfu] at hfi
        have hwu : within 201 u := atT_within _ hwi hu
        have hp := PutX A E hP a 201 (by decide) t hwi u hwu (some p) hpo hokp
        have hself := putX_self p t u hu
        rw [show (putO a t u (some p)).1 = putX u t p from rfl, show (putO a t u (some p)).2 = 0 from rfl, hself] at hp
        have h28 := At28 A E hP 201 t hwi (p.map Int.ofNat) (by
          have := pathT_len a t 201 (p.map Int.ofNat) hwi hpo
          omega)
        rw [hu] at h28
        have hwu' := within_up hn hpo (b := b)
        rw [← hup] at hwu'
        have hab := h21 a b
        rw [hwu'] at hab
        have s1 := same31 A E hP 201 u u hwu
        have s2 := same31 A E hP 201 t t hwi
        rw [sameT_refl] at s1 s2
        obtain ⟨iu, ku, su, kus, huu⟩ : ∃ i k s ks, u = Tree.node i k s ks := by cases u; exact ⟨_, _, _, _, rfl⟩
        have eU : E.tree.v u = .agg [.int .i64 iu, .int .i64 ku, .str su, .sl 4 (E.tree.l kus)] := by rw [huu]; exact E.node ..
        simp only [Option.getD_some, Option.isSome_some, Option.map_some] at hfi h26 h28
        rw [eT, eU] at hp
        rw [eT] at s2 h28
        rw [eU] at s1 h28 hfi
        obtain ⟨pl, hpl⟩ : ∃ pl, pl = p.map Int.ofNat := ⟨_, rfl⟩
        rw [← hpl] at h26 h28
        obtain ⟨bb, hbb⟩ : ∃ bb, bb = (pathT b t).isSome := ⟨_, rfl⟩
        have hfs : (firstL b (preT t 1)).isSome = bb := by
          rw [hbb]
          cases hq : pathT b t with
          | none => rw [fb2 hq]; rfl
          | some q => obtain ⟨v, _, hv⟩ := fb1 q hq; rw [hv]; rfl
        rw [hfs] at hfb
        rw [← hbb] at hab
        obtain ⟨v1, v2, v3, v4, hvv⟩ : ∃ i k s ks, (firstL b (preT t 1)).getD t0 = Tree.node i k s ks := by cases (firstL b (preT t 1)).getD t0; exact ⟨_, _, _, _, rfl⟩
        rw [hvv, E.node] at hfb
        have hul : up.length ≤ 200 := by
          rw [hup]
          unfold aboveS
          cases hq : pathT b t with
          | none => simp
          | some q =>
            have := pathT_len b t 201 q hwi hq
            simp only [upIds_len]
            omega
        have hlu := E.int.len up
        clear hbb fb1 fb2 f1 f2 hfu hu
        (refine ⟨Ent.of (hP ▸ Try.func26) rfl, ?_⟩; refine TC.pureE h26 ?_; cbv; (repeat (first | exact trivial | refine And.intro (Emb.Pur _ _) ?_ | refine And.intro rfl ?_ | refine And.intro (Pur.mk rfl) ?_ | refine And.intro (Pur.mk (by assumption)) ?_)); ((try cbv) <;> (repeat ((with_reducible refine EW.of ?_); cbv))))
        (refine ⟨Ent.of (hP ▸ Try.func34) rfl, ?_⟩; refine TC.pureE hfi ?_; cbv; (repeat (first | exact trivial | refine And.intro (Emb.Pur _ _) ?_ | refine And.intro rfl ?_ | refine And.intro (Pur.mk rfl) ?_ | refine And.intro (Pur.mk (by assumption)) ?_)); ((try cbv) <;> (repeat ((with_reducible refine EW.of ?_); cbv))))
        (first | refine bno (neF rfl) ?_ | refine bno (nbF rfl) ?_)
        cbv
        ((try cbv) <;> (repeat ((with_reducible refine EW.of ?_); cbv)))
        (refine ⟨Ent.of (hP ▸ Try.func28) rfl, ?_⟩; refine TC.pureE h28 ?_; cbv; (repeat (first | exact trivial | refine And.intro (Emb.Pur _ _) ?_ | refine And.intro rfl ?_ | refine And.intro (Pur.mk rfl) ?_ | refine And.intro (Pur.mk (by assumption)) ?_)); ((try cbv) <;> (repeat ((with_reducible refine EW.of ?_); cbv))))
        (refine ⟨Ent.of (hP ▸ Try.func32) rfl, ?_⟩; refine TC.pureE hp ?_; cbv; (repeat (first | exact trivial | refine And.intro (Emb.Pur _ _) ?_ | refine And.intro rfl ?_ | refine And.intro (Pur.mk rfl) ?_ | refine And.intro (Pur.mk (by assumption)) ?_)); ((try cbv) <;> (repeat ((with_reducible refine EW.of ?_); cbv))))
        (refine ⟨Ent.of (hP ▸ Try.func31) rfl, ?_⟩; refine TC.pureE s1 ?_; cbv; (repeat (first | exact trivial | refine And.intro (Emb.Pur _ _) ?_ | refine And.intro rfl ?_ | refine And.intro (Pur.mk rfl) ?_ | refine And.intro (Pur.mk (by assumption)) ?_)); ((try cbv) <;> (repeat ((with_reducible refine EW.of ?_); cbv))))
        (first | refine bno (neF rfl) ?_ | refine bno (nbF rfl) ?_)
        cbv
        ((try cbv) <;> (repeat ((with_reducible refine EW.of ?_); cbv)))
        (refine ⟨Ent.of (hP ▸ Try.func31) rfl, ?_⟩; refine TC.pureE s2 ?_; cbv; (repeat (first | exact trivial | refine And.intro (Emb.Pur _ _) ?_ | refine And.intro rfl ?_ | refine And.intro (Pur.mk rfl) ?_ | refine And.intro (Pur.mk (by assumption)) ?_)); ((try cbv) <;> (repeat ((with_reducible refine EW.of ?_); cbv))))
        ((try cbv) <;> (repeat ((with_reducible refine EW.of ?_); cbv)))
        obtain ⟨bt, hbt⟩ : ∃ bt, bt = bb := ⟨_, rfl⟩
        rw [← hbt] at hfb
        (refine ⟨Ent.of (hP ▸ Try.func34) rfl, ?_⟩; refine TC.pureE hfb ?_; cbv; (repeat (first | exact trivial | refine And.intro (Emb.Pur _ _) ?_ | refine And.intro rfl ?_ | refine And.intro (Pur.mk rfl) ?_ | refine And.intro (Pur.mk (by assumption)) ?_)); ((try cbv) <;> (repeat ((with_reducible refine EW.of ?_); cbv))))
        cases bt with
        | true =>
          ((try cbv) <;> (repeat ((with_reducible refine EW.of ?_); cbv)))
          (refine ⟨Ent.of (hP ▸ Try.func19) rfl, ?_⟩; refine TC.pureE h19 ?_; cbv; (repeat (first | exact trivial | refine And.intro (Emb.Pur _ _) ?_ | refine And.intro rfl ?_ | refine And.intro (Pur.mk rfl) ?_ | refine And.intro (Pur.mk (by assumption)) ?_)); ((try cbv) <;> (repeat ((with_reducible refine EW.of ?_); cbv))))
          obtain ⟨v0, hv0'⟩ : ∃ v0, v0 = A.eq a b := ⟨_, rfl⟩
          have hv0 : v0 = (bb && decide (a = b)) := by rw [hv0', A.ok_eq, ← hbt]; rfl
          obtain ⟨S, hS⟩ : ∃ S : LI (Nat × Bool), S = ⟨fun x => [(22, .int .i64 x.1), (21, .sl 1 (E.int.l up)), (20, .bool x.2), (19, .bool bb), (3, .ref 0 4 0 0), (1, .int .i64 a), (2, .int .i64 b)], fun _ => [some (.box 4 (.agg [.int .i64 i, .int .i64 k, .str s, .sl 4 (E.tree.l ks)]))], fun x => x.1 ≤ up.length ∧ x.2 = ((bb && decide (a = b)) || (up.take x.1).any fun y => bb && decide (y = a)), fun x => up.length - x.1⟩ := ⟨_, rfl⟩
          refine TW.loopM A (T0_ok hP) S 150 rfl (0, v0) ?_ ?_ ?_
          · rw [hS]; exact ⟨Nat.zero_le _, by simp only [List.take_zero, List.any_nil, Bool.or_false]; exact hv0⟩
          · rw [hS]; cbv; (repeat (first | exact trivial | refine And.intro (Emb.Pur _ _) ?_ | refine And.intro rfl ?_ | refine And.intro (inc_eq A (by omega)) ?_ | refine And.intro hbt ?_ | refine And.intro hbt.symm ?_ | refine And.intro hv0' ?_ | refine And.intro hv0'.symm ?_))
          rintro ⟨j, v⟩ hj l1 L1 e1 e2
          rw [hS] at hj e1 e2
          dsimp only at hj e1 e2
          obtain ⟨hj, hv⟩ := hj
          subst e1 e2
          rw [← hbt]
          cbv
          ((try cbv) <;> (repeat ((with_reducible refine EW.of ?_); cbv)))
          refine bsplit (fun h => ?_) (fun h => ?_)
          · have h : j < (E.int.l up).length := lt_nt h rfl (A.ok_len _)
            have h : j < up.length := by omega
            obtain ⟨x, hx⟩ : ∃ x, up[j]? = some x := ⟨_, List.getElem?_eq_getElem h⟩
            ((try cbv) <;> (repeat ((with_reducible refine EW.of ?_); cbv)))
            cases v with
            | true =>
              obtain ⟨nv, hnv⟩ : ∃ nv, nv = true := ⟨_, rfl⟩
              ((try cbv) <;> (repeat ((with_reducible refine EW.of ?_); cbv)))
              refine LM.of (j + 1, nv) rfl ?_ ?_ ?_
              rotate_left
              rotate_left
              · rw [hS]; cbv; (repeat (first | exact trivial | refine And.intro (Emb.Pur _ _) ?_ | refine And.intro rfl ?_ | refine And.intro (inc_eq A (by omega)) ?_ | refine And.intro hbt ?_ | refine And.intro hbt.symm ?_ | refine And.intro hnv ?_ | refine And.intro hnv.symm ?_))
              · rw [hS]
                refine ⟨h, ?_⟩
                dsimp only
                rw [List.take_add_one, hx, List.any_append, ← Bool.or_assoc, ← hv, ← hbt]
                rw [hnv]; simp [A.ok_eq]
              · rw [hS]; show up.length - (j + 1) < up.length - j; omega
            | false =>
              obtain ⟨nv, hnv⟩ : ∃ nv, nv = A.eq x a := ⟨_, rfl⟩
              cbv
              (refine ⟨_, _, rfl, (E.geti hx), ?_⟩; cbv; ((try cbv) <;> (repeat ((with_reducible refine EW.of ?_); cbv))))
              ((try cbv) <;> (repeat ((with_reducible refine EW.of ?_); cbv)))
              refine LM.of (j + 1, nv) rfl ?_ ?_ ?_
              rotate_left
              rotate_left
              · rw [hS]; cbv; (repeat (first | exact trivial | refine And.intro (Emb.Pur _ _) ?_ | refine And.intro rfl ?_ | refine And.intro (inc_eq A (by omega)) ?_ | refine And.intro hbt ?_ | refine And.intro hbt.symm ?_ | refine And.intro hnv ?_ | refine And.intro hnv.symm ?_))
              · rw [hS]
                refine ⟨h, ?_⟩
                dsimp only
                rw [List.take_add_one, hx, List.any_append, ← Bool.or_assoc, ← hv, ← hbt]
                rw [hnv]; simp [A.ok_eq]
              · rw [hS]; show up.length - (j + 1) < up.length - j; omega
          · have h : (E.int.l up).length ≤ j := lt_nf h rfl (A.ok_len _)
            rw [List.take_of_length_le (by omega)] at hv
            rw [← hv] at hab
            ((try cbv) <;> (repeat ((with_reducible refine EW.of ?_); cbv)))
            (refine ⟨Ent.of (hP ▸ Try.func21) rfl, ?_⟩; refine TC.pureE hab ?_; cbv; (repeat (first | exact trivial | refine And.intro (Emb.Pur _ _) ?_ | refine And.intro rfl ?_ | refine And.intro (Pur.mk rfl) ?_ | refine And.intro (Pur.mk (by assumption)) ?_)); ((try cbv) <;> (repeat ((with_reducible refine EW.of ?_); cbv))))
            (first | refine byes (eqT rfl) ?_ | refine byes (beqT rfl) ?_)
            ((try cbv) <;> (repeat ((with_reducible refine EW.of ?_); cbv)))
            (refine ⟨Ent.of (hP ▸ Try.func14) rfl, ?_⟩; refine TC.pureE h14 ?_; cbv; (repeat (first | exact trivial | refine And.intro (Emb.Pur _ _) ?_ | refine And.intro rfl ?_ | refine And.intro (Pur.mk rfl) ?_ | refine And.intro (Pur.mk (by assumption)) ?_)); ((try cbv) <;> (repeat ((with_reducible refine EW.of ?_); cbv))))
        | false =>
          ((try cbv) <;> (repeat ((with_reducible refine EW.of ?_); cbv)))
          (refine ⟨Ent.of (hP ▸ Try.func19) rfl, ?_⟩; refine TC.pureE h19 ?_; cbv; (repeat (first | exact trivial | refine And.intro (Emb.Pur _ _) ?_ | refine And.intro rfl ?_ | refine And.intro (Pur.mk rfl) ?_ | refine And.intro (Pur.mk (by assumption)) ?_)); ((try cbv) <;> (repeat ((with_reducible refine EW.of ?_); cbv))))
          obtain ⟨v0, hv0'⟩ : ∃ v0, v0 = false := ⟨_, rfl⟩
          have hv0 : v0 = (bb && decide (a = b)) := by rw [hv0', ← hbt]; rfl
          obtain ⟨S, hS⟩ : ∃ S : LI (Nat × Bool), S = ⟨fun x => [(22, .int .i64 x.1), (21, .sl 1 (E.int.l up)), (20, .bool x.2), (19, .bool bb), (3, .ref 0 4 0 0), (1, .int .i64 a), (2, .int .i64 b)], fun _ => [some (.box 4 (.agg [.int .i64 i, .int .i64 k, .str s, .sl 4 (E.tree.l ks)]))], fun x => x.1 ≤ up.length ∧ x.2 = ((bb && decide (a = b)) || (up.take x.1).any fun y => bb && decide (y = a)), fun x => up.length - x.1⟩ := ⟨_, rfl⟩
          refine TW.loopM A (T0_ok hP) S 150 rfl (0, v0) ?_ ?_ ?_
          · rw [hS]; exact ⟨Nat.zero_le _, by simp only [List.take_zero, List.any_nil, Bool.or_false]; exact hv0⟩
          · rw [hS]; cbv; (repeat (first | exact trivial | refine And.intro (Emb.Pur _ _) ?_ | refine And.intro rfl ?_ | refine And.intro (inc_eq A (by omega)) ?_ | refine And.intro hbt ?_ | refine And.intro hbt.symm ?_ | refine And.intro hv0' ?_ | refine And.intro hv0'.symm ?_))
          rintro ⟨j, v⟩ hj l1 L1 e1 e2
          rw [hS] at hj e1 e2
          dsimp only at hj e1 e2
          obtain ⟨hj, hv⟩ := hj
          subst e1 e2
          rw [← hbt]
          cbv
          ((try cbv) <;> (repeat ((with_reducible refine EW.of ?_); cbv)))
          refine bsplit (fun h => ?_) (fun h => ?_)
          · have h : j < (E.int.l up).length := lt_nt h rfl (A.ok_len _)
            have h : j < up.length := by omega
            obtain ⟨x, hx⟩ : ∃ x, up[j]? = some x := ⟨_, List.getElem?_eq_getElem h⟩
            ((try cbv) <;> (repeat ((with_reducible refine EW.of ?_); cbv)))
            cases v with
            | true =>
              obtain ⟨nv, hnv⟩ : ∃ nv, nv = true := ⟨_, rfl⟩
              ((try cbv) <;> (repeat ((with_reducible refine EW.of ?_); cbv)))
              refine LM.of (j + 1, nv) rfl ?_ ?_ ?_
              rotate_left
              rotate_left
              · rw [hS]; cbv; (repeat (first | exact trivial | refine And.intro (Emb.Pur _ _) ?_ | refine And.intro rfl ?_ | refine And.intro (inc_eq A (by omega)) ?_ | refine And.intro hbt ?_ | refine And.intro hbt.symm ?_ | refine And.intro hnv ?_ | refine And.intro hnv.symm ?_))
              · rw [hS]
                refine ⟨h, ?_⟩
                dsimp only
                rw [List.take_add_one, hx, List.any_append, ← Bool.or_assoc, ← hv, ← hbt]
                rw [hnv]; simp [A.ok_eq]
              · rw [hS]; show up.length - (j + 1) < up.length - j; omega
            | false =>
              obtain ⟨nv, hnv⟩ : ∃ nv, nv = false := ⟨_, rfl⟩
              ((try cbv) <;> (repeat ((with_reducible refine EW.of ?_); cbv)))
              refine LM.of (j + 1, nv) rfl ?_ ?_ ?_
              rotate_left
              rotate_left
              · rw [hS]; cbv; (repeat (first | exact trivial | refine And.intro (Emb.Pur _ _) ?_ | refine And.intro rfl ?_ | refine And.intro (inc_eq A (by omega)) ?_ | refine And.intro hbt ?_ | refine And.intro hbt.symm ?_ | refine And.intro hnv ?_ | refine And.intro hnv.symm ?_))
              · rw [hS]
                refine ⟨h, ?_⟩
                dsimp only
                rw [List.take_add_one, hx, List.any_append, ← Bool.or_assoc, ← hv, ← hbt]
                rw [hnv]; simp [A.ok_eq]
              · rw [hS]; show up.length - (j + 1) < up.length - j; omega
          · have h : (E.int.l up).length ≤ j := lt_nf h rfl (A.ok_len _)
            rw [List.take_of_length_le (by omega)] at hv
            rw [← hv] at hab
            ((try cbv) <;> (repeat ((with_reducible refine EW.of ?_); cbv)))
            (refine ⟨Ent.of (hP ▸ Try.func21) rfl, ?_⟩; refine TC.pureE hab ?_; cbv; (repeat (first | exact trivial | refine And.intro (Emb.Pur _ _) ?_ | refine And.intro rfl ?_ | refine And.intro (Pur.mk rfl) ?_ | refine And.intro (Pur.mk (by assumption)) ?_)); ((try cbv) <;> (repeat ((with_reducible refine EW.of ?_); cbv))))
            (first | refine byes (eqT rfl) ?_ | refine byes (beqT rfl) ?_)
            ((try cbv) <;> (repeat ((with_reducible refine EW.of ?_); cbv)))
            (refine ⟨Ent.of (hP ▸ Try.func14) rfl, ?_⟩; refine TC.pureE h14 ?_; cbv; (repeat (first | exact trivial | refine And.intro (Emb.Pur _ _) ?_ | refine And.intro rfl ?_ | refine And.intro (Pur.mk rfl) ?_ | refine And.intro (Pur.mk (by assumption)) ?_)); ((try cbv) <;> (repeat ((with_reducible refine EW.of ?_); cbv))))
    · rw [decide_eq_false hn]
      cbv
      (repeat (first | exact trivial | refine And.intro (Emb.Pur _ _) ?_ | refine And.intro rfl ?_ | refine And.intro (Pur.mk rfl) ?_ | refine And.intro (Pur.mk (by assumption)) ?_))
      ((try cbv) <;> (repeat ((with_reducible refine EW.of ?_); cbv)))
      (refine ⟨Ent.of (hP ▸ Try.func14) rfl, ?_⟩; refine TC.pureE h14 ?_; cbv; (repeat (first | exact trivial | refine And.intro (Emb.Pur _ _) ?_ | refine And.intro rfl ?_ | refine And.intro (Pur.mk rfl) ?_ | refine And.intro (Pur.mk (by assumption)) ?_)); ((try cbv) <;> (repeat ((with_reducible refine EW.of ?_); cbv))))
end Go.Proofs.Ytpjibokaeefhiaa
