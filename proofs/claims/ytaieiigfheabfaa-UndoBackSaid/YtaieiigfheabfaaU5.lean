import Derived.Test.YtaieiigfheabfaaU4
import Derived.Test.YtaieiigfheabfaaTw7
/-! The inverse of a step undoes it: plain. -/
namespace Go.Proofs.Ytaieiigfheabfaa
open Go.Proofs.Ytaieiigfheabfaa.Tw
theorem size_within : ∀ {n : Nat} {t : Tree}, sizeT t ≤ n → n ≤ 1000000 → within n t
  | 0, .node i k s ks, h, hn => by rw [sizeT] at h; omega
  | n + 1, .node i k s ks, h, hn => by
    rw [sizeT] at h
    have hk : ∀ (ts : List Tree), ts.length ≤ sizeK ts ∧ ∀ t ∈ ts, sizeT t ≤ sizeK ts := fun ts => by
      induction ts with
      | nil => exact ⟨Nat.le_refl _, fun t ht => by cases ht⟩
      | cons t ts ih =>
        rw [sizeK]
        have h1 : 1 ≤ sizeT t := by cases t; rw [sizeT]; omega
        refine ⟨by simp only [List.length_cons]; omega, fun u hu => ?_⟩
        rcases List.mem_cons.1 hu with rfl | hu
        · omega
        · have := ih.2 u hu; omega
    exact ⟨by have := (hk ks).1; omega, fun t ht => size_within (by have := (hk ks).2 t ht; omega) (by omega)⟩
structure BackLaw (t : Tree) (x : Stp) : Prop where
  y : applyF (applyF t x).1 (invF t x) = (t, 0)
  z : applyF t (invF (applyF t x).1 (invF t x)) = ((applyF t x).1, 0)
  n : (idsT (applyF t x).1).Nodup
  r : ∀ i ∈ idsT (applyF t x).1, 1 ≤ i ∧ i ≤ 1125899906842624
  s : sizeT (applyF t x).1 ≤ sizeT t + sizeT x.sub
  bs : sizeT (invF t x).sub ≤ sizeT t
  bo : (invF t x).op ≤ 127
  cs : sizeT (invF (applyF t x).1 (invF t x)).sub ≤ sizeT t + sizeT x.sub
  co : (invF (applyF t x).1 (invF t x)).op ≤ 127
theorem small_of {t : Tree} (h : sizeT t ≤ 2000) : smallT t = true := by rw [smallT_eq]; exact decide_eq_true h
theorem small_noT : smallT noT = true := by decide
theorem size_noT : sizeT noT = 1 := by decide
theorem apply_of {t : Tree} {x : Stp} {y : Tree} (h1 : sizeT t ≤ 2000) (h2 : sizeT x.sub ≤ 2000) (h3 : 1 ≤ x.op) (h4 : x.op ≤ 4) (h : wayF x t = (y, 0)) : applyF t x = (y, 0) := by
  unfold applyF
  rw [if_pos ⟨small_of h1, small_of h2, h3, h4⟩, h]; rfl
theorem apply_way {t : Tree} {x : Stp} (he : (applyF t x).2 = 0) : 1 ≤ x.op ∧ x.op ≤ 4 ∧ (wayF x t).2 = 0 ∧ applyF t x = ((wayF x t).1, 0) := by
  unfold applyF at he ⊢
  split at he
  · rename_i hc
    rw [if_pos hc]
    split at he
    · rename_i h0
      exact ⟨hc.2.2.1, hc.2.2.2, h0, if_pos h0⟩
    · rename_i h0; exact absurd he h0
  · exact absurd (show (2 : Int) = 0 from he) (by decide)
theorem way1 {x : Stp} {t : Tree} (h : x.op = 1) : wayF x t = wIns x t := by unfold wayF; rw [if_pos h]
theorem way2 {x : Stp} {t : Tree} (h : x.op = 2) : wayF x t = wDel x t := by unfold wayF; rw [if_neg (by omega), if_pos h]
theorem way3 {x : Stp} {t : Tree} (h : x.op = 3) : wayF x t = wMove x t := by unfold wayF; rw [if_neg (by omega), if_neg (by omega), if_pos h]
theorem way4 {x : Stp} {t : Tree} (h : x.op = 4) : wayF x t = wText x t := by unfold wayF; rw [if_neg (by omega), if_neg (by omega), if_neg (by omega)]
theorem inv1 {x : Stp} {t : Tree} (h : x.op = 1) : invF t x = ⟨2, x.sub.id, 0, 0, ⟨#[]⟩, noT⟩ := by unfold invF; rw [if_pos h]
theorem inv2 {x : Stp} {t : Tree} (h : x.op = 2) : invF t x = ⟨1, 0, (parentS t x.id).1, (parentS t x.id).2.1, ⟨#[]⟩, fndT t x.id⟩ := by unfold invF; rw [if_neg (by omega), if_pos h]
theorem inv3 {x : Stp} {t : Tree} (h : x.op = 3) : invF t x = ⟨3, x.id, (parentS t x.id).1, (parentS t x.id).2.1, ⟨#[]⟩, noT⟩ := by unfold invF; rw [if_neg (by omega), if_neg (by omega), if_pos h]
theorem inv4 {x : Stp} {t : Tree} (h : x.op = 4) : invF t x = ⟨4, x.id, 0, 0, (fndT t x.id).txt, noT⟩ := by unfold invF; rw [if_neg (by omega), if_neg (by omega), if_neg (by omega)]
theorem size_slot (S : Slot) (u : Tree) : sizeT (S.t u) = sizeT S.w + sizeT u := by
  rw [size_ids, size_ids, size_ids, (S.perm u).length_eq, List.length_append]
theorem inv_ins {S : Slot} {x : Stp} (hop : x.op = 1) : invF S.w x = ⟨2, x.sub.id, 0, 0, ⟨#[]⟩, noT⟩ := inv1 hop
theorem inv_del {S : Slot} {u : Tree} {x : Stp} (hN : (idsT (S.t u)).Nodup) (hop : x.op = 2) (hx : x.id = u.id) : invF (S.t u) x = ⟨1, 0, S.i, (S.l.length : Int), ⟨#[]⟩, u⟩ := by
  rw [inv2 hop, hx, Slot.parent hN, fndT, Slot.find hN]; rfl
theorem inv_move {S : Slot} {u : Tree} {x : Stp} (hN : (idsT (S.t u)).Nodup) (hop : x.op = 3) (hx : x.id = u.id) : invF (S.t u) x = ⟨3, u.id, S.i, (S.l.length : Int), ⟨#[]⟩, noT⟩ := by
  rw [inv3 hop, hx, Slot.parent hN]
/-- An insertion and a deletion at a place undo each other. -/
theorem app_ins {S : Slot} {x : Stp} (hN : (idsT (S.t x.sub)).Nodup) (hr : ∀ i ∈ idsT x.sub, rgI i) (hs : sizeT S.w + sizeT x.sub ≤ 2000) (hop : x.op = 1) (hi : x.par = S.i) (hp : x.pl = (S.l.length : Int)) : applyF S.w x = (S.t x.sub, 0) :=
  apply_of (by omega) (by omega) (by omega) (by omega) ((way1 hop).trans (wIns_slot hN hr hi hp))
theorem app_del {S : Slot} {u : Tree} {x : Stp} (hN : (idsT (S.t u)).Nodup) (hs : sizeT S.w + sizeT u ≤ 2000) (hss : sizeT x.sub ≤ 2000) (hop : x.op = 2) (hx : x.id = u.id) : applyF (S.t u) x = (S.w, 0) :=
  apply_of (by rw [size_slot]; exact hs) hss (by omega) (by omega) ((way2 hop).trans (wDel_slot hN hx))
theorem app_move {S S2 : Slot} {u : Tree} {x : Stp} (hN : (idsT (S.t u)).Nodup) (hs : sizeT S.w + sizeT u ≤ 2000) (hss : sizeT x.sub ≤ 2000) (hop : x.op = 3) (hx : x.id = u.id) (hw : S.w = S2.w) (hi : x.par = S2.i) (hp : x.pl = (S2.l.length : Int)) : applyF (S.t u) x = (S2.t u, 0) :=
  apply_of (by rw [size_slot]; exact hs) hss (by omega) (by omega) ((way3 hop).trans (wMove_slot hN hx hw hi hp))
theorem back_law {t : Tree} {x : Stp} (hn : (idsT t).Nodup) (hr : ∀ i ∈ idsT t, 1 ≤ i ∧ i ≤ 1125899906842624) (hs : sizeT t + sizeT x.sub ≤ 2000) (he : (applyF t x).2 = 0) : BackLaw t x := by
  obtain ⟨ho1, ho2, hw, hap⟩ := apply_way he
  have h1s := size_noT
  rcases (show x.op = 1 ∨ x.op = 2 ∨ x.op = 3 ∨ x.op = 4 by omega) with hop | hop | hop | hop
  · rw [way1 hop] at hw hap
    obtain ⟨p, n, hf, hpl, hnp, ⟨q1, q2, q3⟩, hwi⟩ := wIns_ok hw
    obtain ⟨S, rfl, hSi, hSl, rfl⟩ := Slot.of_ins hn hf hnp
    have hins := Slot.ins (u := x.sub) hn
    rw [hSi, hSl] at hins
    rw [hSi] at hwi
    rw [hins] at hwi
    rw [hwi] at hap
    have hN : (idsT (S.t x.sub)).Nodup := (S.perm x.sub).nodup_iff.2 (List.nodup_append.2 ⟨hn, q2, fun a ha b hb e => q3 b hb (e ▸ ha)⟩)
    have hb : invF S.w x = ⟨2, x.sub.id, 0, 0, ⟨#[]⟩, noT⟩ := inv1 hop
    have hc : invF (S.t x.sub) ⟨2, x.sub.id, 0, 0, ⟨#[]⟩, noT⟩ = ⟨1, 0, S.i, (S.l.length : Int), ⟨#[]⟩, x.sub⟩ := inv_del hN rfl rfl
    refine ⟨?_, ?_, ?_, fun i hi => ?_, ?_, ?_, ?_, ?_, ?_⟩
    · rw [hap, hb]; exact app_del hN hs (by show sizeT noT ≤ 2000; omega) rfl rfl
    · rw [hap, hb, hc]; exact app_ins (x := ⟨1, 0, S.i, (S.l.length : Int), ⟨#[]⟩, x.sub⟩) hN q1 hs rfl rfl rfl
    · rw [hap]; exact hN
    · rw [hap] at hi
      rcases List.mem_append.1 ((S.perm x.sub).mem_iff.1 hi) with h | h
      · exact hr i h
      · exact q1 i h
    · rw [hap, size_slot]; exact Nat.le_refl _
    · rw [hb]; show sizeT noT ≤ _; rw [h1s]; cases S.w; rw [sizeT]; omega
    · rw [hb]; show (2 : Int) ≤ 127; decide
    · rw [hap, hb, hc]; show sizeT x.sub ≤ _; omega
    · rw [hap, hb, hc]; show (1 : Int) ≤ 127; decide
  · rw [way2 hop] at hw hap
    have hd : ∃ u, findTr x.id t = some u ∧ t.id ≠ x.id := by
      unfold wDel at hw
      cases hf : findTr x.id t with
      | none => rw [hf] at hw; exact absurd (show (4 : Int) = 0 from hw) (by decide)
      | some u =>
        rw [hf] at hw
        refine ⟨u, rfl, fun e => ?_⟩
        dsimp only at hw
        rw [if_pos e] at hw
        exact absurd (show (90 : Int) = 0 from hw) (by decide)
    obtain ⟨u, hf, hroot⟩ := hd
    obtain ⟨S, rfl, hu⟩ := Slot.of_find hn hf hroot
    rw [wDel_slot hn hu.symm] at hap
    have hsz := size_slot S u
    have hrg : ∀ i ∈ idsT u, rgI i := fun i hi => hr i ((S.perm u).mem_iff.2 (List.mem_append_right _ hi))
    have hb : invF (S.t u) x = ⟨1, 0, S.i, (S.l.length : Int), ⟨#[]⟩, u⟩ := inv_del hn hop hu.symm
    have hc : invF S.w ⟨1, 0, S.i, (S.l.length : Int), ⟨#[]⟩, u⟩ = ⟨2, u.id, 0, 0, ⟨#[]⟩, noT⟩ := inv1 rfl
    refine ⟨?_, ?_, ?_, fun i hi => ?_, ?_, ?_, ?_, ?_, ?_⟩
    · rw [hap, hb]; exact app_ins (x := ⟨1, 0, S.i, (S.l.length : Int), ⟨#[]⟩, u⟩) hn hrg (by show sizeT S.w + sizeT u ≤ 2000; omega) rfl rfl rfl
    · rw [hap, hb, hc]; exact app_del hn (by omega) (by show sizeT noT ≤ 2000; omega) rfl rfl
    · rw [hap]; exact Slot.nodupW hn
    · rw [hap] at hi; exact hr i ((S.perm u).mem_iff.2 (List.mem_append_left _ hi))
    · rw [hap]; show sizeT S.w ≤ _; omega
    · rw [hb]; show sizeT u ≤ _; omega
    · rw [hb]; show (1 : Int) ≤ 127; decide
    · rw [hap, hb, hc]; show sizeT noT ≤ _; have : 1 ≤ sizeT u := by cases u; rw [sizeT]; omega
      omega
    · rw [hap, hb, hc]; show (2 : Int) ≤ 127; decide
  · rw [way3 hop] at hw hap
    have hd : ∃ u, findTr x.id t = some u ∧ t.id ≠ x.id := by
      unfold wMove at hw
      cases hf : findTr x.id t with
      | none => rw [hf] at hw; exact absurd (show (4 : Int) = 0 from hw) (by decide)
      | some u =>
        rw [hf] at hw
        refine ⟨u, rfl, fun e => ?_⟩
        dsimp only at hw
        cases hf2 : findTr x.par t with
        | none => rw [hf2] at hw; exact absurd (show (4 : Int) = 0 from hw) (by decide)
        | some v =>
          rw [hf2] at hw
          dsimp only at hw
          rw [if_pos e] at hw
          exact absurd (show (90 : Int) = 0 from hw) (by decide)
    obtain ⟨u, hf, hroot⟩ := hd
    obtain ⟨S, rfl, hu⟩ := Slot.of_find hn hf hroot
    have hW := Slot.nodupW hn
    have hd2 : ∃ (p : Tree) (n : Nat), findTr x.par S.w = some p ∧ x.pl = (n : Int) ∧ n ≤ p.kids.length := by
      unfold wMove at hw
      rw [← hu, Slot.find hn] at hw
      dsimp only at hw
      cases hf2 : findTr x.par (S.t u) with
      | none => rw [hf2] at hw; exact absurd (show (4 : Int) = 0 from hw) (by decide)
      | some v =>
        rw [hf2] at hw
        dsimp only at hw
        rw [if_neg (Slot.root hn)] at hw
        split at hw
        · exact absurd (show (91 : Int) = 0 from hw) (by decide)
        rw [Slot.take hn] at hw
        dsimp only at hw
        cases hf3 : findTr x.par S.w with
        | none => rw [hf3] at hw; exact absurd (show (2 : Int) = 0 from hw) (by decide)
        | some p =>
          rw [hf3] at hw
          dsimp only at hw
          split at hw
          · exact absurd (show (2 : Int) = 0 from hw) (by decide)
          · rename_i hc
            exact ⟨p, x.pl.toNat, rfl, by omega, by omega⟩
    obtain ⟨p, n, hf3, hpl, hnp⟩ := hd2
    obtain ⟨S2, hS2, hSi, hSl, -⟩ := Slot.of_ins hW hf3 hnp
    have hN2 : (idsT (S2.t u)).Nodup := (S2.perm u).nodup_iff.2 (hS2 ▸ (S.perm u).nodup_iff.1 hn)
    have hsz := size_slot S u
    have hsz2 := size_slot S2 u
    rw [← hS2] at hsz2
    have hxs : sizeT x.sub ≤ 2000 := by omega
    have hss : sizeT S.w + sizeT u ≤ 2000 := by omega
    have hap2 : applyF (S.t u) x = (S2.t u, 0) := app_move hn hss hxs hop hu.symm hS2 hSi.symm (by rw [hpl, hSl])
    have hb : invF (S.t u) x = ⟨3, u.id, S.i, (S.l.length : Int), ⟨#[]⟩, noT⟩ := inv_move hn hop hu.symm
    have hc : invF (S2.t u) ⟨3, u.id, S.i, (S.l.length : Int), ⟨#[]⟩, noT⟩ = ⟨3, u.id, S2.i, (S2.l.length : Int), ⟨#[]⟩, noT⟩ := inv_move hN2 rfl rfl
    have hu1 : 1 ≤ sizeT u := by cases u; rw [sizeT]; omega
    refine ⟨?_, ?_, ?_, fun i hi => ?_, ?_, ?_, ?_, ?_, ?_⟩
    · rw [hap2, hb]; exact app_move (x := ⟨3, u.id, S.i, (S.l.length : Int), ⟨#[]⟩, noT⟩) hN2 (by rw [← hS2]; exact hss) (by show sizeT noT ≤ 2000; omega) rfl rfl hS2.symm rfl rfl
    · rw [hap2, hb, hc]; exact app_move (x := ⟨3, u.id, S2.i, (S2.l.length : Int), ⟨#[]⟩, noT⟩) hn hss (by show sizeT noT ≤ 2000; omega) rfl rfl hS2 rfl rfl
    · rw [hap2]; exact hN2
    · rw [hap2] at hi
      have := (S2.perm u).mem_iff.1 hi
      rw [← hS2] at this
      exact hr i ((S.perm u).mem_iff.2 this)
    · rw [hap2]; show sizeT (S2.t u) ≤ _; omega
    · rw [hb]; show sizeT noT ≤ _; omega
    · rw [hb]; show (3 : Int) ≤ 127; decide
    · rw [hap2, hb, hc]; show sizeT noT ≤ _; omega
    · rw [hap2, hb, hc]; show (3 : Int) ≤ 127; decide
  · rw [way4 hop] at hw hap
    have hd : ∃ u, findTr x.id t = some u := by
      unfold wText at hw
      cases hf : findTr x.id t with
      | none => rw [hf] at hw; exact absurd (show (4 : Int) = 0 from hw) (by decide)
      | some u => exact ⟨u, rfl⟩
    obtain ⟨u, hf⟩ := hd
    obtain ⟨c, rfl, hu, hc, -⟩ := find_split hn hf
    obtain ⟨i, k, s, ks⟩ := u
    replace hu : i = x.id := hu
    subst hu
    have hput : ∀ (s1 s2 : ByteArray) (z : Stp), z.id = x.id → z.text = s2 → wText z (c.fill (.node x.id k s1 ks)) = (c.fill (.node x.id k s2 ks), 0) := fun s1 s2 z hz1 hz2 => by
      unfold wText
      rw [hz1, find_fill hc, findTr, if_pos rfl]
      dsimp only
      rw [mod_fill (id := x.id) (u := .node x.id k s1 ks) rfl hc, hz2]
      rfl
    have hfnd : ∀ s1, (fndT (c.fill (.node x.id k s1 ks)) x.id).txt = s1 := fun s1 => by
      unfold fndT
      rw [find_fill hc, findTr, if_pos rfl]; rfl
    have hids : ∀ s1, (idsT (c.fill (.node x.id k s1 ks))).Perm (idsT (c.fill (.node x.id k s ks))) := fun s1 => (fill_perm c _).trans (fill_perm c (.node x.id k s ks)).symm
    have hsz : ∀ s1, sizeT (c.fill (.node x.id k s1 ks)) = sizeT (c.fill (.node x.id k s ks)) := fun s1 => by rw [size_ids, size_ids, (hids s1).length_eq]
    have hap2 : applyF (c.fill (.node x.id k s ks)) x = (c.fill (.node x.id k x.text ks), 0) := apply_of (by omega) (by omega) (by omega) (by omega) ((way4 hop).trans (hput s x.text x rfl rfl))
    have hb : invF (c.fill (.node x.id k s ks)) x = ⟨4, x.id, 0, 0, s, noT⟩ := by rw [inv4 hop, hfnd]
    have hcc : invF (c.fill (.node x.id k x.text ks)) ⟨4, x.id, 0, 0, s, noT⟩ = ⟨4, x.id, 0, 0, x.text, noT⟩ := by rw [inv4 rfl, hfnd]
    have ht1 : 1 ≤ sizeT (c.fill (.node x.id k s ks)) := by cases c.fill (.node x.id k s ks); rw [sizeT]; omega
    have hsx := hsz x.text
    refine ⟨?_, ?_, ?_, fun i hi => ?_, ?_, ?_, ?_, ?_, ?_⟩
    · rw [hap2, hb]; exact apply_of (by show sizeT (c.fill (.node x.id k x.text ks)) ≤ 2000; omega) (by show sizeT noT ≤ 2000; omega) (by show (1 : Int) ≤ 4; decide) (by show (4 : Int) ≤ 4; decide) ((way4 rfl).trans (hput x.text s _ rfl rfl))
    · rw [hap2, hb, hcc]; exact apply_of (by omega) (by show sizeT noT ≤ 2000; omega) (by show (1 : Int) ≤ 4; decide) (by show (4 : Int) ≤ 4; decide) ((way4 rfl).trans (hput s x.text _ rfl rfl))
    · rw [hap2]; exact (hids x.text).nodup_iff.2 hn
    · rw [hap2] at hi; exact hr i ((hids x.text).mem_iff.1 hi)
    · rw [hap2]; show sizeT (c.fill (.node x.id k x.text ks)) ≤ _; omega
    · rw [hb]; show sizeT noT ≤ _; omega
    · rw [hb]; show (4 : Int) ≤ 127; decide
    · rw [hap2, hb, hcc]; show sizeT noT ≤ _; omega
    · rw [hap2, hb, hcc]; show (4 : Int) ≤ 127; decide
end Go.Proofs.Ytaieiigfheabfaa

/-! The law UndoBack. -/
namespace Go.Proofs.Ytaieiigfheabfaa
open Go.Proofs.Ytaieiigfheabfaa.Tw
theorem walk_size {t : Tree} (h : (walkT 201 t [] 1).length ≤ 200) : sizeT t ≤ 200 := by
  rw [walkT_eq 201 t [] 1 (by omega), List.nil_append] at h
  rw [size_ids, ← preT_ids t 1, List.length_map]
  exact h
theorem apply_err {t : Tree} {x : Stp} (h : (applyF t x).2 ≠ 0) : (applyF t x).1 = noT := by
  unfold applyF at h ⊢
  split
  · rename_i hc
    rw [if_pos hc] at h
    split
    · rename_i h2; rw [if_pos h2] at h; exact absurd rfl h
    · rfl
  · rfl
theorem inv_err (t : Tree) (x : Stp) : (invR t x).2 = (applyF t x).2 := by
  unfold invR
  split
  · rename_i h; rw [h]
  · rfl
/-- What the law needs where the step goes. -/
structure BackC (P : Program) (E : Em) (F : EmS) (t y : Tree) (b c : Stp) : Prop where
  a1 : TPure P 22 [E.tree.v y, F.l.v b] (.tup [E.tree.v t, .int .i64 0])
  i1 : TPure P 23 [E.tree.v y, F.l.v b] (.tup [F.l.v c, .int .i64 0])
  a2 : TPure P 22 [E.tree.v t, F.l.v c] (.tup [E.tree.v y, .int .i64 0])
  s1 : TPure P 18 [E.tree.v t, E.tree.v t] (.bool true)
  s2 : TPure P 18 [E.tree.v y, E.tree.v y] (.bool true)
theorem same_self (A : Ar) (E : Em) {P : Program} (hP : P = Try.prog) {t : Tree} (h : t.ok) : TPure P 18 [E.tree.v t, E.tree.v t] (.bool true) := by
  have := sameN A E hP (SizeOf.sizeOf t + 1) t t (Nat.lt_succ_self _) h
  rw [sameT_refl] at this
  exact this
theorem backC (A : Ar) (E : Em) (F : EmS) {P : Program} (hP : P = Try.prog) (t : Tree) (x : Stp) (hn : (idsT t).Nodup) (hr : ∀ i ∈ idsT t, 1 ≤ i ∧ i ≤ 1125899906842624) (hs : sizeT t + sizeT x.sub ≤ 2000) (he : (applyF t x).2 = 0) : BackC P E F t (applyF t x).1 (invF t x) (invF (applyF t x).1 (invF t x)) := by
  have hB := back_law hn hr hs he
  have hwt : within 2001 t := size_within (by omega) (by decide)
  have hwy : within 2001 (applyF t x).1 := size_within (by have := hB.s; omega) (by decide)
  have hwb : within 2001 (invF t x).sub := size_within (by have := hB.bs; omega) (by decide)
  have hwc : within 2001 (invF (applyF t x).1 (invF t x)).sub := size_within (by have := hB.cs; omega) (by decide)
  have a1 := Apply22 A E F hP 2000 _ hwy _ hwb hB.bo
  have i1 := Invert23 A E F hP 2000 (by decide) _ hwy _ hwb hB.bo
  have a2 := Apply22 A E F hP 2000 _ hwt _ hwc hB.co
  have hi : invR (applyF t x).1 (invF t x) = (invF (applyF t x).1 (invF t x), 0) := by unfold invR; rw [hB.y]; rfl
  rw [hB.y] at a1
  rw [hi] at i1
  rw [hB.z] at a2
  exact ⟨a1, i1, a2, same_self A E hP (within_okU hwt), same_self A E hP (within_okU hwy)⟩
set_option maxHeartbeats 4000000 in
theorem lawBack (A : Ar) (E : Em) (F : EmS) {P : Program} (hP : P = Try.prog) (t : Tree) (x : Stp) (hok : t.ok) (hsk : x.sub.ok) (hop : x.op ≤ 127) : TPure P 6 [E.tree.v t, F.l.v x] (.bool true) := by
  have hap := apart20 A E hP t hok
  have hwk := wakes21 A E F hP
  have h23 := Walk23 A hP 201 (by decide) (by decide) x.sub hsk
  have hau := @apart_within t
  have hsz : apartU t = true → sizeT t ≤ 200 := fun h => walk_size (by
    unfold apartU at h
    rw [Bool.and_eq_true, Bool.and_eq_true] at h
    exact of_decide_eq_true h.2.2)
  have hA1 := fun h1 h2 => Apply22 A E F hP 2000 t h1 x h2 hop
  have hI1 := fun h1 h2 => Invert23 A E F hP 2000 (by decide) t h1 x h2 hop
  have hws : (walkT 201 x.sub [] 1).length ≤ 200 → sizeT x.sub ≤ 200 := walk_size
  have hbc := backC A E F hP t x
  have her := inv_err t x
  have hgi : (applyF t x).2 = 0 → (invR t x).1 = invF t x := fun h => by unfold invR; rw [if_pos h]
  have hwt : sizeT t ≤ 200 → within 2001 t := fun h => size_within (by omega) (by decide)
  have hwx : sizeT x.sub ≤ 200 → within 2001 x.sub := fun h => size_within (by omega) (by decide)
  generalize walkT 201 x.sub [] 1 = sp at h23 hws
  simp only [E.av, E.spots] at h23
  have hlk : A.len (E.spot.l sp) = (sp.length : Int) := by rw [A.ok_len, E.spot.len]
  obtain ⟨ab, hab⟩ : ∃ b, b = apartU t := ⟨_, rfl⟩
  rw [← hab] at hap hau hsz
  obtain ⟨ap, hapv⟩ : ∃ b, b = applyF t x := ⟨_, rfl⟩
  obtain ⟨c, hc⟩ : ∃ c, c = invF (applyF t x).1 (invF t x) := ⟨_, rfl⟩
  obtain ⟨b, hb⟩ : ∃ c, c = invF t x := ⟨_, rfl⟩
  obtain ⟨v, hv⟩ : ∃ c, c = invR t x := ⟨_, rfl⟩
  rw [← hc, ← hb, ← hapv] at hbc
  rw [← hv, ← hapv] at her
  rw [← hv, ← hapv, ← hb] at hgi
  rw [← hv] at hI1
  rw [← hapv] at hA1
  clear hapv hc hb hv hab
  obtain ⟨y, e⟩ := ap
  obtain ⟨v, e2⟩ := v
  dsimp only at hbc her hgi hI1 hA1
  subst her
  have hfin : ab = true → sp.length ≤ 200 → TPure P 22 [E.tree.v t, F.l.v x] (.tup [E.tree.v y, .int .i64 e2]) ∧ TPure P 23 [E.tree.v t, F.l.v x] (.tup [F.l.v v, .int .i64 e2]) ∧ (e2 = 0 → v = b ∧ BackC P E F t y b c) := fun h1 h2 => by
    have h3 := hau h1
    have h4 := hsz h1
    have h5 := hws h2
    exact ⟨hA1 (hwt h4) (hwx h5), hI1 (hwt h4) (hwx h5), fun h6 => ⟨hgi h6, hbc h3.2.1 h3.2.2 (by omega) h6⟩⟩
  clear hA1 hI1 hbc hgi hwt hwx hws hsz hau
  obtain ⟨i, k, s, ks⟩ := t
  obtain ⟨op, id, par, pl, tx, ⟨i0, k0, s0, ks0⟩⟩ := x
  rw [E.node] at hap ⊢
  rw [E.node] at h23
  rw [F.v E]
  refine TPure.ofE A T0 (T0_ok hP) (hP ▸ Try.func6) rfl _ rfl (by simp) ?_
  cbv
  ((try cbv) <;> (repeat ((with_reducible refine EW.of ?_); cbv)))
  (refine ⟨Ent.of (hP ▸ Try.func20) rfl, ?_⟩; refine TC.pureE hap ?_; cbv; (repeat (first | exact trivial | refine And.intro (Emb.Pur _ _) ?_ | refine And.intro rfl ?_ | refine And.intro (Pur.mk rfl) ?_ | refine And.intro (Pur.mk (by assumption)) ?_)); ((try cbv) <;> (repeat ((with_reducible refine EW.of ?_); cbv))))
  cases ab with
  | false =>
    ((try cbv) <;> (repeat ((with_reducible refine EW.of ?_); cbv)))
    (refine ⟨Ent.of (hP ▸ Try.func21) rfl, ?_⟩; refine TC.pureE hwk ?_; cbv; (repeat (first | exact trivial | refine And.intro (Emb.Pur _ _) ?_ | refine And.intro rfl ?_ | refine And.intro (Pur.mk rfl) ?_ | refine And.intro (Pur.mk (by assumption)) ?_)); ((try cbv) <;> (repeat ((with_reducible refine EW.of ?_); cbv))))
  | true =>
  ((try cbv) <;> (repeat ((with_reducible refine EW.of ?_); cbv)))
  (refine ⟨Ent.of (hP ▸ Try.func15) rfl, ?_⟩; refine TC.pureE h23 ?_; cbv; (repeat (first | exact trivial | refine And.intro (Emb.Pur _ _) ?_ | refine And.intro rfl ?_ | refine And.intro (Pur.mk rfl) ?_ | refine And.intro (Pur.mk (by assumption)) ?_)); ((try cbv) <;> (repeat ((with_reducible refine EW.of ?_); cbv))))
  refine bsplit (fun h => ?_) (fun h => ?_)
  · have h : 200 < sp.length := lt_nt (i := 200) h rfl hlk
    ((try cbv) <;> (repeat ((with_reducible refine EW.of ?_); cbv)))
    (refine ⟨Ent.of (hP ▸ Try.func21) rfl, ?_⟩; refine TC.pureE hwk ?_; cbv; (repeat (first | exact trivial | refine And.intro (Emb.Pur _ _) ?_ | refine And.intro rfl ?_ | refine And.intro (Pur.mk rfl) ?_ | refine And.intro (Pur.mk (by assumption)) ?_)); ((try cbv) <;> (repeat ((with_reducible refine EW.of ?_); cbv))))
  have h : sp.length ≤ 200 := lt_nf (i := 200) h rfl hlk
  obtain ⟨hA1, hI1, hG⟩ := hfin rfl h
  clear hfin
  rw [E.node, F.v E] at hA1 hI1
  obtain ⟨yi, yk, ys, yks⟩ := y
  obtain ⟨vo, vi, vp, vl, vt, ⟨va, vb, vc, vd⟩⟩ := v
  rw [E.node] at hA1
  rw [F.v E] at hI1
  ((try cbv) <;> (repeat ((with_reducible refine EW.of ?_); cbv)))
  (refine ⟨Ent.of (hP ▸ Try.func22) rfl, ?_⟩; refine TC.pureE hA1 ?_; cbv; (repeat (first | exact trivial | refine And.intro (Emb.Pur _ _) ?_ | refine And.intro rfl ?_ | refine And.intro (Pur.mk rfl) ?_ | refine And.intro (Pur.mk (by assumption)) ?_)); ((try cbv) <;> (repeat ((with_reducible refine EW.of ?_); cbv))))
  (refine ⟨Ent.of (hP ▸ Try.func23) rfl, ?_⟩; refine TC.pureE hI1 ?_; cbv; (repeat (first | exact trivial | refine And.intro (Emb.Pur _ _) ?_ | refine And.intro rfl ?_ | refine And.intro (Pur.mk rfl) ?_ | refine And.intro (Pur.mk (by assumption)) ?_)); ((try cbv) <;> (repeat ((with_reducible refine EW.of ?_); cbv))))
  refine bno (show A.bnot (A.eq e2 e2) = false by rw [A.ok_bnot, A.ok_eq]; simp) ?_
  ((try cbv) <;> (repeat ((with_reducible refine EW.of ?_); cbv)))
  refine bsplit (fun h2 => ?_) (fun h2 => ?_)
  · ((try cbv) <;> (repeat ((with_reducible refine EW.of ?_); cbv)))
    (refine ⟨Ent.of (hP ▸ Try.func21) rfl, ?_⟩; refine TC.pureE hwk ?_; cbv; (repeat (first | exact trivial | refine And.intro (Emb.Pur _ _) ?_ | refine And.intro rfl ?_ | refine And.intro (Pur.mk rfl) ?_ | refine And.intro (Pur.mk (by assumption)) ?_)); ((try cbv) <;> (repeat ((with_reducible refine EW.of ?_); cbv))))
  have h2 : e2 = 0 := ne_f h2 rfl rfl
  obtain ⟨hvb, a1, i1, a2, s1, s2⟩ := hG h2
  clear hG
  obtain ⟨co, ci, cp, cl, ct, ⟨ca, cb, cc, cd⟩⟩ := c
  rw [← hvb] at a1 i1
  clear hvb
  rw [E.node, E.node, F.v E] at a1
  rw [E.node, F.v E, F.v E] at i1
  rw [E.node, E.node, F.v E] at a2
  rw [E.node] at s1 s2
  ((try cbv) <;> (repeat ((with_reducible refine EW.of ?_); cbv)))
  (refine ⟨Ent.of (hP ▸ Try.func22) rfl, ?_⟩; refine TC.pureE a1 ?_; cbv; (repeat (first | exact trivial | refine And.intro (Emb.Pur _ _) ?_ | refine And.intro rfl ?_ | refine And.intro (Pur.mk rfl) ?_ | refine And.intro (Pur.mk (by assumption)) ?_)); ((try cbv) <;> (repeat ((with_reducible refine EW.of ?_); cbv))))
  (refine ⟨Ent.of (hP ▸ Try.func23) rfl, ?_⟩; refine TC.pureE i1 ?_; cbv; (repeat (first | exact trivial | refine And.intro (Emb.Pur _ _) ?_ | refine And.intro rfl ?_ | refine And.intro (Pur.mk rfl) ?_ | refine And.intro (Pur.mk (by assumption)) ?_)); ((try cbv) <;> (repeat ((with_reducible refine EW.of ?_); cbv))))
  have hz : A.bnot (A.eq 0 0) = false := by rw [A.ok_bnot, A.ok_eq]; rfl
  have hz2 : A.eq 0 0 = true := by rw [A.ok_eq]; rfl
  refine bno hz ?_
  cbv
  ((try cbv) <;> (repeat ((with_reducible refine EW.of ?_); cbv)))
  refine bno hz ?_
  cbv
  ((try cbv) <;> (repeat ((with_reducible refine EW.of ?_); cbv)))
  (refine ⟨Ent.of (hP ▸ Try.func18) rfl, ?_⟩; refine TC.pureE s1 ?_; cbv; (repeat (first | exact trivial | refine And.intro (Emb.Pur _ _) ?_ | refine And.intro rfl ?_ | refine And.intro (Pur.mk rfl) ?_ | refine And.intro (Pur.mk (by assumption)) ?_)); ((try cbv) <;> (repeat ((with_reducible refine EW.of ?_); cbv))))
  (refine ⟨Ent.of (hP ▸ Try.func22) rfl, ?_⟩; refine TC.pureE a2 ?_; cbv; (repeat (first | exact trivial | refine And.intro (Emb.Pur _ _) ?_ | refine And.intro rfl ?_ | refine And.intro (Pur.mk rfl) ?_ | refine And.intro (Pur.mk (by assumption)) ?_)); ((try cbv) <;> (repeat ((with_reducible refine EW.of ?_); cbv))))
  refine byes hz2 ?_
  cbv
  ((try cbv) <;> (repeat ((with_reducible refine EW.of ?_); cbv)))
  (refine ⟨Ent.of (hP ▸ Try.func18) rfl, ?_⟩; refine TC.pureE s2 ?_; cbv; (repeat (first | exact trivial | refine And.intro (Emb.Pur _ _) ?_ | refine And.intro rfl ?_ | refine And.intro (Pur.mk rfl) ?_ | refine And.intro (Pur.mk (by assumption)) ?_)); ((try cbv) <;> (repeat ((with_reducible refine EW.of ?_); cbv))))
  (refine ⟨Ent.of (hP ▸ Try.func21) rfl, ?_⟩; refine TC.pureE hwk ?_; cbv; (repeat (first | exact trivial | refine And.intro (Emb.Pur _ _) ?_ | refine And.intro rfl ?_ | refine And.intro (Pur.mk rfl) ?_ | refine And.intro (Pur.mk (by assumption)) ?_)); ((try cbv) <;> (repeat ((with_reducible refine EW.of ?_); cbv))))
end Go.Proofs.Ytaieiigfheabfaa

/-! What a row's argument of a tree reads as. -/
namespace Go.Proofs.Ytaieiigfheabfaa
open Go.Proofs.Ytaieiigfheabfaa.Tw Go.RowKit
/-- All parts in range. -/
inductive Tree.wf : Tree → Prop
  | node {i k : Int} {s : ByteArray} {ks : List Tree} (hi : (Lit.int .i64 i).wf = true) (hk : (Lit.int .i64 k).wf = true) (hs : s.size ≤ maxLen) (h : ks.length ≤ maxLen) (hks : ∀ t ∈ ks, t.wf) : Tree.wf (.node i k s ks)
theorem opens_tree : ∀ n, Tw.Opens Try.prog 25 Tree.av Tree.wf n
  | 0 => by
    intro H enc w base spare held fuel cs x hf hx
    obtain rfl : fuel = 0 := by omega
    simp [DataW.trod] at hx
  | n + 1 => by
    have h := opens_struct (sz := 4) Try.underlying25 (by kernel_rfl) (opens_cons (c := 1) (sz := 3) rfl (by kernel_rfl) (by decide) (Tw.opens_int Try.underlying3 n) (opens_cons (c := 1) (sz := 2) rfl (by kernel_rfl) (by decide) (Tw.opens_int Try.underlying3 n) (opens_cons (c := 1) (sz := 1) rfl (by kernel_rfl) (by decide) (Tw.opens_string Try.underlying9 n) (opens_last (sz := 1) rfl (by kernel_rfl) (Tw.opens_le (Tw.opens_slice (c := 4) Try.underlying23 (by kernel_rfl) (by decide) (opens_tree n)) (Nat.le_succ n))))))
    refine Tw.opens_map Tree.av Tree.wf (fun x => .node x.1 x.2.1 x.2.2.1 x.2.2.2) (fun x => ?_) (fun x hx => ?_) h
    · simp [Tree.av, avs_map, AV.cells]
    · exact .node hx.1 hx.2.1 hx.2.2.1 hx.2.2.2.1 hx.2.2.2.2
theorem Tree.wf.ok {t : Tree} (h : t.wf) : t.ok := by
  induction h with
  | node hi hk hs h hks ih => exact .node h ih
theorem opens_ints (n : Nat) : Tw.Opens Try.prog 102 (fun l : List Int => .sl 1 (l.map em0.int.v)) (fun l => l.length ≤ maxLen) n :=
  Tw.opens_le (Tw.opens_map _ _ id (fun _ => rfl) (fun _ h => h.1) (Tw.opens_slice (c := 1) Try.underlying102 (by kernel_rfl) (by decide) (Tw.opens_int Try.underlying3 n))) (Nat.le_succ n)
end Go.Proofs.Ytaieiigfheabfaa

/-! What a row's argument of steps reads as. -/
namespace Go.Proofs.Ytaieiigfheabfaa
open Go.Proofs.Ytaieiigfheabfaa.Tw Go.RowKit
theorem opens_step : ∀ n, Tw.Opens Try.prog 27 Stp.av (fun x => x.sub.wf) n
  | 0 => by
    intro H enc w base spare held fuel cs x hf hx
    obtain rfl : fuel = 0 := by omega
    simp [DataW.trod] at hx
  | n + 1 => by
    have h := opens_struct (sz := 9) Try.underlying27 (by kernel_rfl) (opens_cons (c := 1) (sz := 8) rfl (by kernel_rfl) (by decide) (Tw.opens_int Try.underlying22 n) (opens_cons (c := 1) (sz := 7) rfl (by kernel_rfl) (by decide) (Tw.opens_int Try.underlying3 n) (opens_cons (c := 1) (sz := 6) rfl (by kernel_rfl) (by decide) (Tw.opens_int Try.underlying3 n) (opens_cons (c := 1) (sz := 5) rfl (by kernel_rfl) (by decide) (Tw.opens_int Try.underlying3 n) (opens_cons (c := 1) (sz := 4) rfl (by kernel_rfl) (by decide) (Tw.opens_string Try.underlying9 n) (opens_last (sz := 4) rfl (by kernel_rfl) (opens_tree n)))))))
    refine Tw.opens_map Stp.av (fun x => x.sub.wf) (fun x => ⟨x.1, x.2.1, x.2.2.1, x.2.2.2.1, x.2.2.2.2.1, x.2.2.2.2.2⟩) (fun x => ?_) (fun x hx => hx.2.2.2.2.2) h
    obtain ⟨a, b, c, d, e, ⟨i, k, s, ks⟩⟩ := x
    simp [Stp.av, Tree.av, AV.cells]
theorem opens_steps (n : Nat) : Tw.Opens Try.prog 29 (fun l : List Stp => .sl 9 (l.map Stp.av)) (fun l => l.length ≤ maxLen ∧ ∀ x ∈ l, x.sub.wf) n :=
  Tw.opens_le (Tw.opens_map _ _ id (fun _ => rfl) (fun _ h => h) (Tw.opens_slice (c := 9) Try.underlying29 (by kernel_rfl) (by decide) (opens_step n))) (Nat.le_succ n)
end Go.Proofs.Ytaieiigfheabfaa

/-! What a step's argument reads as, its operation's number with it. -/
namespace Go.Proofs.Ytaieiigfheabfaa
open Go.Proofs.Ytaieiigfheabfaa.Tw Go.RowKit
theorem wf_i8 {n : Int} (h : (Lit.int .i8 n).wf = true) : n ≤ 127 := by
  simp [Lit.wf] at h
  have h2 : n ≤ 127 := h.2
  omega
theorem opens_stepO : ∀ n, Tw.Opens Try.prog 27 Stp.av (fun x => x.sub.wf ∧ x.op ≤ 127) n
  | 0 => by
    intro H enc w base spare held fuel cs x hf hx
    obtain rfl : fuel = 0 := by omega
    simp [DataW.trod] at hx
  | n + 1 => by
    have h := opens_struct (sz := 9) Try.underlying27 (by kernel_rfl) (opens_cons (c := 1) (sz := 8) rfl (by kernel_rfl) (by decide) (Tw.opens_int Try.underlying22 n) (opens_cons (c := 1) (sz := 7) rfl (by kernel_rfl) (by decide) (Tw.opens_int Try.underlying3 n) (opens_cons (c := 1) (sz := 6) rfl (by kernel_rfl) (by decide) (Tw.opens_int Try.underlying3 n) (opens_cons (c := 1) (sz := 5) rfl (by kernel_rfl) (by decide) (Tw.opens_int Try.underlying3 n) (opens_cons (c := 1) (sz := 4) rfl (by kernel_rfl) (by decide) (Tw.opens_string Try.underlying9 n) (opens_last (sz := 4) rfl (by kernel_rfl) (opens_tree n)))))))
    refine Tw.opens_map Stp.av (fun x => x.sub.wf ∧ x.op ≤ 127) (fun x => ⟨x.1, x.2.1, x.2.2.1, x.2.2.2.1, x.2.2.2.2.1, x.2.2.2.2.2⟩) (fun x => ?_) (fun x hx => ⟨hx.2.2.2.2.2, ?_⟩) h
    · obtain ⟨a, b, c, d, e, ⟨i, k, s, ks⟩⟩ := x
      simp [Stp.av, Tree.av, AV.cells]
    · exact wf_i8 hx.1
theorem opens_stepsO (n : Nat) : Tw.Opens Try.prog 29 (fun l : List Stp => .sl 9 (l.map Stp.av)) (fun l => l.length ≤ maxLen ∧ ∀ x ∈ l, x.sub.wf ∧ x.op ≤ 127) n :=
  Tw.opens_le (Tw.opens_map _ _ id (fun _ => rfl) (fun _ h => h) (Tw.opens_slice (c := 9) Try.underlying29 (by kernel_rfl) (by decide) (opens_stepO n))) (Nat.le_succ n)
end Go.Proofs.Ytaieiigfheabfaa

/-! The law UndoBack and its row's arguments. -/
