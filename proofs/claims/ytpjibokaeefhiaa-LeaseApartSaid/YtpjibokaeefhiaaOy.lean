import Derived.Test.YtpjibokaeefhiaaOv
import Derived.Test.YtpjibokaeefhiaaOm
/-! The law LeaseApart, walked. -/
namespace Go.Proofs.Ytpjibokaeefhiaa
open Go.Proofs.Ytpjibokaeefhiaa.Tw
/-- No two are in each other's way, and all ids are below. -/
structure ApartL (t : Tree) (l : List Lease) (i : Nat) : Prop where
  two : l.Pairwise fun a b => withinS t a.root b.root = false ∧ withinS t b.root a.root = false
  ids : ∀ x ∈ l, x.id ≤ i
  len : l.length ≤ 16
theorem ApartL.rm {t : Tree} {l : List Lease} {i : Nat} (h : ApartL t l i) (p : Lease → Bool) : ApartL t (l.filter p) (i + 1) :=
  ⟨h.two.sublist List.filter_sublist, fun x hx => by have := h.ids x (List.mem_filter.1 hx).1; omega, Nat.le_trans (List.length_filter_le _ _) h.len⟩
theorem ApartL.more {t : Tree} {l : List Lease} {i : Nat} (h : ApartL t l i) : ApartL t l (i + 1) := ⟨h.two, fun x hx => by have := h.ids x hx; omega, h.len⟩
theorem within_none {t : Tree} {a b : Int} (h : (pathT a t).isNone = true) : withinS t a b = false ∧ withinS t b a = false := by
  unfold withinS withinO
  cases hp : pathT a t with
  | some p => rw [hp] at h; simp at h
  | none => exact ⟨rfl, by cases pathT b t <;> rfl⟩
/-- What Add answers of leases made so: the way there is tells. -/
theorem ApartL.add {t : Tree} {l : List Lease} {i : Nat} (h : ApartL t l i) (r : Int) {l' : List Lease} {e : Int} (hr : addS t l ⟨((i + 1 : Nat) : Int), r, 1, ((i + 1 : Nat) : Int), ((i + 1 : Nat) : Int)⟩ = (l', e)) :
    (l.any (inWay t r) = true ∧ e = 163) ∨ (l.any (inWay t r) = false ∧ e ≠ 163 ∧ (e = 0 → l'.length = l.length + 1 ∧ ApartL t l' (i + 1))) := by
  unfold addS at hr
  dsimp only at hr
  rw [if_neg (by omega), if_neg (by omega), if_neg (by omega), if_neg (by omega), if_neg (by omega)] at hr
  by_cases h1 : (pathT r t).isNone = true
  · rw [if_pos h1] at hr
    cases hr
    refine .inr ⟨?_, by decide, fun h => by cases h⟩
    rw [List.any_eq_false]
    intro x _
    have := within_none (b := x.root) h1
    simp [inWay, this.1, this.2]
  rw [if_neg h1] at hr
  have h2 : l.any (fun y => decide (((i + 1 : Nat) : Int) ≤ y.id)) = false := by
    rw [List.any_eq_false]
    intro x hx
    have := h.ids x hx
    simp
    omega
  rw [h2, if_neg (by decide)] at hr
  rw [any_find]
  cases hf : l.find? (inWay t r) with
  | some x =>
    rw [hf] at hr
    rw [if_pos (show (some x).isSome = true from rfl)] at hr
    cases hr
    exact .inl ⟨rfl, rfl⟩
  | none =>
    rw [hf, if_neg (by simp)] at hr
    refine .inr ⟨rfl, ?_⟩
    by_cases h3 : 16 ≤ l.length
    · rw [if_pos h3] at hr
      cases hr
      exact ⟨by decide, fun h => by cases h⟩
    · rw [if_neg h3] at hr
      cases hr
      refine ⟨by decide, fun _ => ⟨by simp, ⟨?_, ?_, by simp; omega⟩⟩⟩
      · rw [List.pairwise_append]
        refine ⟨h.two, by simp, fun a ha b hb => ?_⟩
        simp at hb
        subst hb
        have := List.find?_eq_none.1 hf a ha
        simpa [inWay, Bool.or_eq_false_iff] using this
      · intro x hx
        rw [List.mem_append] at hx
        rcases hx with hx | hx
        · have := h.ids x hx; omega
        · simp at hx; subst hx; show ((i + 1 : Nat) : Int) ≤ _; omega
theorem ApartL.at {t : Tree} {l : List Lease} {i j k : Nat} {x y : Lease} (h : ApartL t l i) (hj : l[j]? = some x) (hk : l[k]? = some y) (hne : j ≠ k) : withinS t x.root y.root = false := by
  obtain ⟨a1, a2⟩ := List.getElem?_eq_some_iff.1 hj
  obtain ⟨b1, b2⟩ := List.getElem?_eq_some_iff.1 hk
  have hp := List.pairwise_iff_getElem.1 h.two
  rcases Nat.lt_or_gt_of_ne hne with hlt | hlt
  · have := hp j k a1 b1 hlt
    rw [a2, b2] at this
    exact this.1
  · have := hp k j b1 a1 hlt
    rw [a2, b2] at this
    exact this.2
theorem ApartL.nil {t : Tree} {i : Nat} : ApartL t [] i := ⟨List.Pairwise.nil, fun x hx => by simp at hx, by simp⟩
set_option maxHeartbeats 1000000 in
theorem lawApart (A : Ar) (E : Em) (F : EmL) {P : Program} (hP : P = Try.prog) (t : Tree) (hok : t.ok) (rs : List Int) : TPure P 11 [E.tree.v t, .sl 1 (E.int.l rs)] (.bool true) := by
  refine TPure.ofE A T0 (T0_ok hP) (hP ▸ Try.func11) rfl _ rfl (by simp) ?_
  have h23 := Walk23 A hP 201 (by decide) (by decide) t hok
  have h35 := wakes35 A hP
  have hwl := (walkT_len 201 t [] 1).2 (by simp)
  have hwi := fun h => walk_within (m := 201) (t := t) (by decide) h
  generalize walkT 201 t [] 1 = l at h23 hwl hwi
  have h47 := apart47 A E hP l (by omega)
  have h22 := fun a b hw => Within22 A hP a b 201 (by decide) t hw
  have h36 := fun l hl x hw => Add36 A E F hP 201 (by decide) t hw l hl x
  have hll := E.spot.len l
  have hrl := E.int.len rs
  generalize apartS l = ap at h47
  generalize ht : t = t1
  rw [ht] at hwi
  obtain ⟨i, k, s, ks⟩ := t
  subst ht
  simp only [E.av, E.spots, E.node] at h23 h22 h36 ⊢
  cbv
  ((try cbv) <;> (repeat ((with_reducible refine EW.of ?_); cbv)))
  (refine ⟨Ent.of (hP ▸ Try.func23) rfl, ?_⟩; refine TC.pureE h23 ?_; cbv; (repeat (first | exact trivial | refine And.intro (Emb.Pur _ _) ?_ | refine And.intro rfl ?_ | refine And.intro (Pur.mk rfl) ?_ | refine And.intro (Pur.mk (by assumption)) ?_)); ((try cbv) <;> (repeat ((with_reducible refine EW.of ?_); cbv))))
  refine bsplit (fun h => ?_) (fun h => ?_)
  · ((try cbv) <;> (repeat ((with_reducible refine EW.of ?_); cbv)))
    (refine ⟨Ent.of (hP ▸ Try.func35) rfl, ?_⟩; refine TC.pureE h35 ?_; cbv; (repeat (first | exact trivial | refine And.intro (Emb.Pur _ _) ?_ | refine And.intro rfl ?_ | refine And.intro (Pur.mk rfl) ?_ | refine And.intro (Pur.mk (by assumption)) ?_)); ((try cbv) <;> (repeat ((with_reducible refine EW.of ?_); cbv))))
  · have h : (E.spot.l l).length ≤ 200 := lt_nf (i := 200) h rfl (A.ok_len _)
    replace hwi := hwi (by omega)
    cbv
    refine bsplit (fun h2 => ?_) (fun h2 => ?_)
    · ((try cbv) <;> (repeat ((with_reducible refine EW.of ?_); cbv)))
      (refine ⟨Ent.of (hP ▸ Try.func35) rfl, ?_⟩; refine TC.pureE h35 ?_; cbv; (repeat (first | exact trivial | refine And.intro (Emb.Pur _ _) ?_ | refine And.intro rfl ?_ | refine And.intro (Pur.mk rfl) ?_ | refine And.intro (Pur.mk (by assumption)) ?_)); ((try cbv) <;> (repeat ((with_reducible refine EW.of ?_); cbv))))
    · have h2 : (E.int.l rs).length ≤ 60 := lt_nf (i := 60) h2 rfl (A.ok_len _)
      cbv
      refine ⟨Ent.of (hP ▸ Try.func47) rfl, ?_⟩
      refine TC.pureE h47 ?_
      cbv
      (repeat (first | exact trivial | refine And.intro (Emb.Pur _ _) ?_ | refine And.intro rfl ?_ | refine And.intro (Pur.mk rfl) ?_ | refine And.intro (Pur.mk (by assumption)) ?_))
      cases ap with
      | false =>
        cbv
        ((try cbv) <;> (repeat ((with_reducible refine EW.of ?_); cbv)))
        (refine ⟨Ent.of (hP ▸ Try.func35) rfl, ?_⟩; refine TC.pureE h35 ?_; cbv; (repeat (first | exact trivial | refine And.intro (Emb.Pur _ _) ?_ | refine And.intro rfl ?_ | refine And.intro (Pur.mk rfl) ?_ | refine And.intro (Pur.mk (by assumption)) ?_)); ((try cbv) <;> (repeat ((with_reducible refine EW.of ?_); cbv))))
      | true =>
        cbv
        ((try cbv) <;> (repeat ((with_reducible refine EW.of ?_); cbv)))
        obtain ⟨t0, ht0⟩ : ∃ t0, t0 = Tree.node i k s ks := ⟨_, rfl⟩
        rw [← ht0] at hwi
        replace h22 := fun a b => h22 a b (ht0 ▸ hwi)
        replace h36 := fun l hl x => h36 l hl x (ht0 ▸ hwi)
        rw [← ht0] at h22 h36
        obtain ⟨z, hz⟩ : ∃ z : Store, z = [some (.box 4 (.agg [.int .i64 i, .int .i64 k, .str s, .sl 4 (E.tree.l ks)]))] := ⟨_, rfl⟩
        obtain ⟨S, hS⟩ : ∃ S : LI (Nat × List Lease), S = ⟨fun x => [(7, .int .i64 x.1), (6, .sl 5 (F.l.l x.2)), (2, .ref 0 4 0 0), (1, .sl 1 (E.int.l rs))], fun _ => z, fun x => x.1 ≤ rs.length ∧ ApartL t0 x.2 x.1, fun x => rs.length - x.1⟩ := ⟨_, rfl⟩
        refine TW.loopM A (T0_ok hP) S _ rfl (0, []) ?_ ?_ ?_
        · rw [hS]; exact ⟨Nat.zero_le _, .nil⟩
        · rw [hS, hz]; cbv; exact ⟨E.tree.Pur _, rfl, F.l.nil.symm, E.int.Pur _, trivial⟩
        rintro ⟨j, ls⟩ hj l1 L1 e1 e2
        rw [hS] at hj e1 e2
        dsimp only at hj e1 e2
        obtain ⟨hj, hap⟩ := hj
        subst e1 e2
        rw [hz]
        have hsl := F.l.len ls
        have hl16 := hap.len
        cbv
        ((try cbv) <;> (repeat ((with_reducible refine EW.of ?_); cbv)))
        refine bsplit (fun h3 => ?_) (fun h3 => ?_)
        · have h3 : j < (E.int.l rs).length := lt_nt h3 rfl (A.ok_len _)
          obtain ⟨r, hr⟩ : ∃ r, rs[j]? = some r := ⟨_, List.getElem?_eq_getElem (by omega)⟩
          ((try cbv) <;> (repeat ((with_reducible refine EW.of ?_); cbv)))
          refine ⟨j, _, rfl, E.geti hr, ?_⟩
          cbv
          ((try cbv) <;> (repeat ((with_reducible refine EW.of ?_); cbv)))
          refine bsplit (fun h4 => ?_) (fun h4 => ?_)
          · ((try cbv) <;> (repeat ((with_reducible refine EW.of ?_); cbv)))
            refine bsplit (fun h5 => ?_) (fun h5 => ?_)
            · have h5 : 0 < (F.l.l ls).length := lt_nt (i := 0) h5 rfl (A.ok_len _)
              obtain ⟨x, hx⟩ : ∃ x, ls[0]? = some x := ⟨_, List.getElem?_eq_getElem (by omega)⟩
              obtain ⟨x1, x2, x3, x4, x5⟩ := x
              have h48' := Remove48 A E F hP ls (by omega) [x1] (by simp)
              rw [E.int.cons, E.iv, E.int.nil] at h48'
              have hrm := hap.rm (fun x => ![x1].contains x.id)
              generalize ls.filter (fun x => ![x1].contains x.id) = ls2 at h48' hrm
              ((try cbv) <;> (repeat ((with_reducible refine EW.of ?_); cbv)))
              refine ⟨0, _, rfl, F.get hx, ?_⟩
              cbv
              ((try cbv) <;> (repeat ((with_reducible refine EW.of ?_); cbv)))
              (refine ⟨Ent.of (hP ▸ Try.func48) rfl, ?_⟩; refine TC.pureE h48' ?_; cbv; (repeat (first | exact trivial | refine And.intro (Emb.Pur _ _) ?_ | refine And.intro rfl ?_ | refine And.intro (Pur.mk rfl) ?_ | refine And.intro (Pur.mk (by assumption)) ?_)); ((try cbv) <;> (repeat ((with_reducible refine EW.of ?_); cbv))))
              refine LM.of (j + 1, ls2) rfl ?_ ?_ ?_
              · rw [hS]; exact ⟨by show j + 1 ≤ _; omega, hrm⟩
              · rw [hS]; show rs.length - (j + 1) < rs.length - j; omega
              · rw [hS, hz]
                cbv
                (repeat (first | exact trivial | refine And.intro (Emb.Pur _ _) ?_ | refine And.intro (inc_eq A (by omega)) ?_ | refine And.intro rfl ?_))
            · ((try cbv) <;> (repeat ((with_reducible refine EW.of ?_); cbv)))
              refine LM.of (j + 1, ls) rfl ?_ ?_ ?_
              · rw [hS]; exact ⟨by show j + 1 ≤ _; omega, hap.more⟩
              · rw [hS]; show rs.length - (j + 1) < rs.length - j; omega
              · rw [hS, hz]
                cbv
                (repeat (first | exact trivial | refine And.intro (Emb.Pur _ _) ?_ | refine And.intro (inc_eq A (by omega)) ?_ | refine And.intro rfl ?_))
          · ((try cbv) <;> (repeat ((with_reducible refine EW.of ?_); cbv)))
            obtain ⟨S2, hS2⟩ : ∃ S : LI (Nat × Bool), S = ⟨fun x => [(9, .int .i64 x.1), (8, .bool x.2), (7, .int .i64 j), (6, .sl 5 (F.l.l ls)), (2, .ref 0 4 0 0), (1, .sl 1 (E.int.l rs))], fun _ => [some (.box 4 (.agg [.int .i64 i, .int .i64 k, .str s, .sl 4 (E.tree.l ks)]))], fun x => x.1 ≤ ls.length ∧ x.2 = (ls.take x.1).any (inWay t0 r), fun x => ls.length - x.1⟩ := ⟨_, rfl⟩
            refine TW.loopM A (T0_ok hP) S2 _ rfl (0, false) ?_ ?_ ?_
            · rw [hS2]; exact ⟨Nat.zero_le _, rfl⟩
            · rw [hS2]
              cbv
              (repeat (first | exact trivial | refine And.intro (Emb.Pur _ _) ?_ | refine And.intro (inc_eq A (by omega)) ?_ | refine And.intro rfl ?_))
            rintro ⟨q, w⟩ hq l1 L1 e1 e2
            rw [hS2] at hq e1 e2
            dsimp only at hq e1 e2
            obtain ⟨hq, hw⟩ := hq
            subst e1 e2
            cbv
            ((try cbv) <;> (repeat ((with_reducible refine EW.of ?_); cbv)))
            refine bsplit (fun h5 => ?_) (fun h5 => ?_)
            · have h5 : q < (F.l.l ls).length := lt_nt h5 rfl (A.ok_len _)
              obtain ⟨y, hy⟩ : ∃ y, ls[q]? = some y := ⟨_, List.getElem?_eq_getElem (by omega)⟩
              have htk : (ls.take (q + 1)).any (inWay t0 r) = (w || (withinS t0 y.root r || withinS t0 r y.root)) := by
                rw [List.take_add_one, hy, List.any_append, ← hw]
                simp [inWay]
              obtain ⟨y1, y2, y3, y4, y5⟩ := y
              dsimp only at htk
              have ha := h22 y2 r
              have hb := h22 r y2
              generalize withinS t0 y2 r = wa at ha htk
              generalize withinS t0 r y2 = wb at hb htk
              obtain ⟨w2, hw2⟩ : ∃ w2, w2 = (w || (wa || wb)) := ⟨_, rfl⟩
              rw [← hw2] at htk
              ((try cbv) <;> (repeat ((with_reducible refine EW.of ?_); cbv)))
              cases w with
              | true =>
                replace hw2 : w2 = true := hw2
                (refine TW.draw (A := A) (T0_ok hP) (hP ▸ follows_mixed) (by kernel_rfl) rfl ?_; cbv)
                ((try cbv) <;> (repeat ((with_reducible refine EW.of ?_); cbv)))
                refine LM.of (q + 1, w2) rfl ?_ ?_ ?_
                · rw [hS2]; exact ⟨by show q + 1 ≤ _; omega, htk.symm⟩
                · rw [hS2]; show ls.length - (q + 1) < ls.length - q; omega
                · rw [hS2, hw2]
                  cbv
                  (repeat (first | exact trivial | refine And.intro (Emb.Pur _ _) ?_ | refine And.intro (inc_eq A (by omega)) ?_ | refine And.intro rfl ?_))
              | false =>
                (refine TW.draw (A := A) (T0_ok hP) (hP ▸ follows_mixed) (by kernel_rfl) rfl ?_; cbv)
                refine ⟨q, _, rfl, F.get hy, ?_⟩
                cbv
                refine ⟨j, _, rfl, E.geti hr, ?_⟩
                cbv
                (refine ⟨Ent.of (hP ▸ Try.func22) rfl, ?_⟩; refine ⟨_, TC.pureX ha (by cbv; (repeat (first | exact trivial | refine And.intro (Emb.Pur _ _) ?_ | refine And.intro rfl ?_ | refine And.intro (Pur.mk rfl) ?_ | refine And.intro (Pur.mk (by assumption)) ?_))), ?_⟩; cbv)
                cases wa with
                | true =>
                  replace hw2 : w2 = true := hw2
                  ((try cbv) <;> (repeat ((with_reducible refine EW.of ?_); cbv)))
                  refine LM.of (q + 1, w2) rfl ?_ ?_ ?_
                  · rw [hS2]; exact ⟨by show q + 1 ≤ _; omega, htk.symm⟩
                  · rw [hS2]; show ls.length - (q + 1) < ls.length - q; omega
                  · rw [hS2, hw2]
                    cbv
                    (repeat (first | exact trivial | refine And.intro (Emb.Pur _ _) ?_ | refine And.intro (inc_eq A (by omega)) ?_ | refine And.intro rfl ?_))
                | false =>
                  cbv
                  refine ⟨j, _, rfl, E.geti hr, ?_⟩
                  cbv
                  refine ⟨q, _, rfl, F.get hy, ?_⟩
                  cbv
                  (refine ⟨Ent.of (hP ▸ Try.func22) rfl, ?_⟩; refine ⟨_, TC.pureX hb (by cbv; (repeat (first | exact trivial | refine And.intro (Emb.Pur _ _) ?_ | refine And.intro rfl ?_ | refine And.intro (Pur.mk rfl) ?_ | refine And.intro (Pur.mk (by assumption)) ?_))), ?_⟩; cbv)
                  replace hw2 : w2 = wb := hw2
                  ((try cbv) <;> (repeat ((with_reducible refine EW.of ?_); cbv)))
                  refine LM.of (q + 1, w2) rfl ?_ ?_ ?_
                  · rw [hS2]; exact ⟨by show q + 1 ≤ _; omega, htk.symm⟩
                  · rw [hS2]; show ls.length - (q + 1) < ls.length - q; omega
                  · rw [hS2, hw2]
                    cbv
                    (repeat (first | exact trivial | refine And.intro (Emb.Pur _ _) ?_ | refine And.intro (inc_eq A (by omega)) ?_ | refine And.intro rfl ?_))
            · have h5 : (F.l.l ls).length ≤ q := lt_nf h5 rfl (A.ok_len _)
              rw [List.take_of_length_le (by omega)] at hw
              obtain ⟨⟨l', e⟩, hadd⟩ : ∃ x, addS t0 ls ⟨((j + 1 : Nat) : Int), r, 1, ((j + 1 : Nat) : Int), ((j + 1 : Nat) : Int)⟩ = x := ⟨_, rfl⟩
              have hlaw := hap.add r hadd
              rw [← hw] at hlaw
              have h36' := h36 ls (by omega) ⟨((j + 1 : Nat) : Int), r, 1, ((j + 1 : Nat) : Int), ((j + 1 : Nat) : Int)⟩
              rw [hadd, F.row] at h36'
              unfold EmL.added at h36'
              dsimp only at h36'
              have h46 := one46 A hP ((j + 1 : Nat) : Int) r
              have hl'l := F.l.len l'
              ((try cbv) <;> (repeat ((with_reducible refine EW.of ?_); cbv)))
              (refine TW.draw (A := A) (T0_ok hP) (hP ▸ follows_mixed) (by kernel_rfl) rfl ?_; cbv)
              refine ⟨j, _, rfl, E.geti hr, ?_⟩
              cbv
              (refine ⟨Ent.of (hP ▸ Try.func46) rfl, ?_⟩; refine ⟨_, TC.pureX h46 (by cbv; exact ⟨inc_eq A (by omega), trivial⟩), ?_⟩; cbv)
              (refine ⟨Ent.of (hP ▸ Try.func36) rfl, ?_⟩; refine ⟨_, TC.pureX h36' (by cbv; (repeat (first | exact trivial | refine And.intro (Emb.Pur _ _) ?_ | refine And.intro rfl ?_ | refine And.intro (Pur.mk rfl) ?_ | refine And.intro (Pur.mk (by assumption)) ?_))), ?_⟩; cbv)
              ((try cbv) <;> (repeat ((with_reducible refine EW.of ?_); cbv)))
              rcases hlaw with ⟨hw1, he⟩ | ⟨hw1, he, hnext⟩
              · subst hw1 he
                have hv : A.bnot (A.beq (A.eq 163 163) true) = false := by simp [A.ok_bnot, A.ok_beq, A.ok_eq]
                refine bno hv ?_
                ((try cbv) <;> (repeat ((with_reducible refine EW.of ?_); cbv)))
                refine bno (eqF (by decide)) ?_
                ((try cbv) <;> (repeat ((with_reducible refine EW.of ?_); cbv)))
                refine bno (eqF (by decide)) ?_
                ((try cbv) <;> (repeat ((with_reducible refine EW.of ?_); cbv)))
                refine LM.of (j + 1, ls) rfl ?_ ?_ ?_
                · rw [hS]; exact ⟨by show j + 1 ≤ _; omega, hap.more⟩
                · rw [hS]; show rs.length - (j + 1) < rs.length - j; omega
                · rw [hS, hz]
                  cbv
                  (repeat (first | exact trivial | refine And.intro (Emb.Pur _ _) ?_ | refine And.intro (inc_eq A (by omega)) ?_ | refine And.intro rfl ?_))
              · subst hw1
                have hv : A.bnot (A.beq (A.eq e 163) false) = false := by simp [A.ok_bnot, A.ok_beq, A.ok_eq, he]
                refine bno hv ?_
                ((try cbv) <;> (repeat ((with_reducible refine EW.of ?_); cbv)))
                by_cases he0 : e = 0
                · obtain ⟨hlen, hap2⟩ := hnext he0
                  refine byes (eqT he0) ?_
                  ((try cbv) <;> (repeat ((with_reducible refine EW.of ?_); cbv)))
                  have hv2 : A.bnot (A.eq (A.len (F.l.l l')) (A.op .add .i64 (A.len (F.l.l ls)) 1)) = false := by
                    rw [A.ok_bnot, A.ok_eq, A.ok_len, A.ok_len, add_i64 rfl rfl (by omega) (by omega), hl'l, hsl, hlen]
                    simp
                  refine bno hv2 ?_
                  ((try cbv) <;> (repeat ((with_reducible refine EW.of ?_); cbv)))
                  refine byes (eqT he0) ?_
                  ((try cbv) <;> (repeat ((with_reducible refine EW.of ?_); cbv)))
                  refine LM.of (j + 1, l') rfl ?_ ?_ ?_
                  · rw [hS]; exact ⟨by show j + 1 ≤ _; omega, hap2⟩
                  · rw [hS]; show rs.length - (j + 1) < rs.length - j; omega
                  · rw [hS, hz]
                    cbv
                    (repeat (first | exact trivial | refine And.intro (Emb.Pur _ _) ?_ | refine And.intro (inc_eq A (by omega)) ?_ | refine And.intro rfl ?_))
                · refine bno (eqF he0) ?_
                  ((try cbv) <;> (repeat ((with_reducible refine EW.of ?_); cbv)))
                  refine bno (eqF he0) ?_
                  ((try cbv) <;> (repeat ((with_reducible refine EW.of ?_); cbv)))
                  refine LM.of (j + 1, ls) rfl ?_ ?_ ?_
                  · rw [hS]; exact ⟨by show j + 1 ≤ _; omega, hap.more⟩
                  · rw [hS]; show rs.length - (j + 1) < rs.length - j; omega
                  · rw [hS, hz]
                    cbv
                    (repeat (first | exact trivial | refine And.intro (Emb.Pur _ _) ?_ | refine And.intro (inc_eq A (by omega)) ?_ | refine And.intro rfl ?_))
        · ((try cbv) <;> (repeat ((with_reducible refine EW.of ?_); cbv)))
          obtain ⟨S3, hS3⟩ : ∃ S : LI Nat, S = ⟨fun x => [(12, .int .i64 x), (6, .sl 5 (F.l.l ls)), (2, .ref 0 4 0 0), (1, .sl 1 (E.int.l rs))], fun _ => [some (.box 4 (.agg [.int .i64 i, .int .i64 k, .str s, .sl 4 (E.tree.l ks)]))], fun x => x ≤ ls.length, fun x => ls.length - x⟩ := ⟨_, rfl⟩
          refine TW.loopM A (T0_ok hP) S3 _ rfl 0 ?_ ?_ ?_
          · rw [hS3]; exact Nat.zero_le _
          · rw [hS3]
            cbv
            (repeat (first | exact trivial | refine And.intro (Emb.Pur _ _) ?_ | refine And.intro (inc_eq A (by omega)) ?_ | refine And.intro rfl ?_))
          rintro a ha l1 L1 e1 e2
          rw [hS3] at ha e1 e2
          dsimp only at ha e1 e2
          subst e1 e2
          cbv
          ((try cbv) <;> (repeat ((with_reducible refine EW.of ?_); cbv)))
          refine bsplit (fun h5 => ?_) (fun h5 => ?_)
          · have h5 : a < (F.l.l ls).length := lt_nt h5 rfl (A.ok_len _)
            obtain ⟨x, hx⟩ : ∃ y, ls[a]? = some y := ⟨_, List.getElem?_eq_getElem (by omega)⟩
            ((try cbv) <;> (repeat ((with_reducible refine EW.of ?_); cbv)))
            obtain ⟨S4, hS4⟩ : ∃ S : LI Nat, S = ⟨fun x => [(13, .int .i64 x), (12, .int .i64 a), (6, .sl 5 (F.l.l ls)), (2, .ref 0 4 0 0), (1, .sl 1 (E.int.l rs))], fun _ => [some (.box 4 (.agg [.int .i64 i, .int .i64 k, .str s, .sl 4 (E.tree.l ks)]))], fun x => x ≤ ls.length, fun x => ls.length - x⟩ := ⟨_, rfl⟩
            refine TW.loopM A (T0_ok hP) S4 _ rfl 0 ?_ ?_ ?_
            · rw [hS4]; exact Nat.zero_le _
            · rw [hS4]
              cbv
              (repeat (first | exact trivial | refine And.intro (Emb.Pur _ _) ?_ | refine And.intro (inc_eq A (by omega)) ?_ | refine And.intro rfl ?_))
            rintro b hb l1 L1 e1 e2
            rw [hS4] at hb e1 e2
            dsimp only at hb e1 e2
            subst e1 e2
            cbv
            ((try cbv) <;> (repeat ((with_reducible refine EW.of ?_); cbv)))
            refine bsplit (fun h6 => ?_) (fun h6 => ?_)
            · have h6 : b < (F.l.l ls).length := lt_nt h6 rfl (A.ok_len _)
              obtain ⟨y, hy⟩ : ∃ y, ls[b]? = some y := ⟨_, List.getElem?_eq_getElem (by omega)⟩
              have hat := fun hne => hap.at hx hy hne
              obtain ⟨x1, x2, x3, x4, x5⟩ := x
              obtain ⟨y1, y2, y3, y4, y5⟩ := y
              have hc := h22 x2 y2
              dsimp only at hat
              ((try cbv) <;> (repeat ((with_reducible refine EW.of ?_); cbv)))
              (refine TW.draw (A := A) (T0_ok hP) (hP ▸ follows_mixed) (by kernel_rfl) rfl ?_; cbv)
              by_cases hne : a = b
              · refine bno (neF (congrArg Int.ofNat hne)) ?_
                ((try cbv) <;> (repeat ((with_reducible refine EW.of ?_); cbv)))
                refine LM.of (b + 1) rfl ?_ ?_ ?_
                · rw [hS4]; show b + 1 ≤ ls.length; omega
                · rw [hS4]; show ls.length - (b + 1) < ls.length - b; omega
                · rw [hS4]
                  cbv
                  (repeat (first | exact trivial | refine And.intro (Emb.Pur _ _) ?_ | refine And.intro (inc_eq A (by omega)) ?_ | refine And.intro rfl ?_))
              · refine byes (neT (fun h => hne (Int.ofNat.inj h))) ?_
                cbv
                refine ⟨a, _, rfl, F.get hx, ?_⟩
                cbv
                refine ⟨b, _, rfl, F.get hy, ?_⟩
                cbv
                rw [hat hne] at hc
                (refine ⟨Ent.of (hP ▸ Try.func22) rfl, ?_⟩; refine ⟨_, TC.pureX hc (by cbv; (repeat (first | exact trivial | refine And.intro (Emb.Pur _ _) ?_ | refine And.intro rfl ?_ | refine And.intro (Pur.mk rfl) ?_ | refine And.intro (Pur.mk (by assumption)) ?_))), ?_⟩; cbv)
                ((try cbv) <;> (repeat ((with_reducible refine EW.of ?_); cbv)))
                refine LM.of (b + 1) rfl ?_ ?_ ?_
                · rw [hS4]; show b + 1 ≤ ls.length; omega
                · rw [hS4]; show ls.length - (b + 1) < ls.length - b; omega
                · rw [hS4]
                  cbv
                  (repeat (first | exact trivial | refine And.intro (Emb.Pur _ _) ?_ | refine And.intro (inc_eq A (by omega)) ?_ | refine And.intro rfl ?_))
            · ((try cbv) <;> (repeat ((with_reducible refine EW.of ?_); cbv)))
              refine LM.of (a + 1) rfl ?_ ?_ ?_
              · rw [hS3]; show a + 1 ≤ ls.length; omega
              · rw [hS3]; show ls.length - (a + 1) < ls.length - a; omega
              · rw [hS3]
                cbv
                (repeat (first | exact trivial | refine And.intro (Emb.Pur _ _) ?_ | refine And.intro (inc_eq A (by omega)) ?_ | refine And.intro rfl ?_))
          · have hlen : A.len (F.l.l ls) ≤ 16 := by rw [A.ok_len, hsl]; omega
            ((try cbv) <;> (repeat ((with_reducible refine EW.of ?_); cbv)))
            refine byes (leT hlen) ?_
            cbv
            (refine ⟨Ent.of (hP ▸ Try.func35) rfl, ?_⟩; refine TC.pureE h35 ?_; cbv; (repeat (first | exact trivial | refine And.intro (Emb.Pur _ _) ?_ | refine And.intro rfl ?_ | refine And.intro (Pur.mk rfl) ?_ | refine And.intro (Pur.mk (by assumption)) ?_)); ((try cbv) <;> (repeat ((with_reducible refine EW.of ?_); cbv))))
end Go.Proofs.Ytpjibokaeefhiaa
