import Derived.Test.YtlngpfocngfokaaGj
/-! Which rows fit, by the reference. -/
namespace Go.Proofs.Ytlngpfocngfokaa
open Go.Proofs.Ytlngpfocngfokaa.Tw
theorem inF_stop {kids : List Int} {s : Slo} {a n : Nat} {nx : Nat → Bool} (h : s.most < (n : Int)) : ∀ f, inF kids s a f n nx = nx
  | 0 => rfl
  | f + 1 => by rw [inF, if_pos (.inl h)]
theorem upd_same (f : Nat → Bool) (i : Nat) : upd f i (f i) = f := by
  funext j
  unfold upd
  split
  · rename_i h; rw [h]
  · rfl
set_option maxRecDepth 100000 in
set_option maxHeartbeats 4000000 in
theorem Fits13 (A : Ar) (E : Em) (G : EmG) (R : EmR) {P : Program} (hP : P = Try.prog) (g : Gra) (hg : g.ok) (k : Int) (kids : List Int) (hkl : kids.length ≤ 9223372036854775807) : TPure P 13 [G.gv g, .int .i64 k, .sl 1 (E.int.l kids)] (.bool (fitsB g k kids)) := by
  have h18 := Check18 A E G hP g hg
  have hmem : ∀ x, kindO g k = some x → x.slots.length ≤ 9223372036854775807 ∧ ∀ s ∈ x.slots, s.kinds.length ≤ 9223372036854775807 := fun x hx => by
    unfold kindO at hx
    split at hx
    · exact hg.slots x (List.mem_of_getElem? hx)
    · cases hx
  have hll := E.int.len kids
  have hlk : A.len (E.int.l kids) = (kids.length : Int) := by rw [A.ok_len, hll]
  obtain ⟨N, hN⟩ : ∃ N, N = kids.length := ⟨_, rfl⟩
  rw [← hN] at hlk hll hkl
  obtain ⟨r, hr⟩ : ∃ r, r = fitsB g k kids := ⟨_, rfl⟩
  rw [← hr]
  unfold fitsB at hr
  obtain ⟨o, ho⟩ : ∃ o, o = kindO g k := ⟨_, rfl⟩
  rw [← ho] at hr hmem
  obtain ⟨ks, root⟩ := g
  have hkL := G.kind.len ks
  have hkk : A.len (G.kind.l ks) = (ks.length : Int) := by rw [A.ok_len, hkL]
  unfold kindO at ho
  dsimp only at ho
  obtain ⟨n, hn⟩ : ∃ n : Int, n = ks.length := ⟨_, rfl⟩
  have hnk : A.len (G.kind.l ks) = n := by rw [hkk, hn]
  replace ho : o = (if checkB ⟨ks, root⟩ = true ∧ 0 ≤ k ∧ k < n then ks[k.toNat]? else none) := by rw [hn]; exact ho
  generalize checkB ⟨ks, root⟩ = cb at h18 ho
  obtain ⟨e, he⟩ : ∃ e, e = errC cb := ⟨_, rfl⟩
  rw [← he] at h18
  have hne : A.bnot (A.eq e 0) = !cb := by rw [he]; exact errC_ne
  unfold EmG.gv at h18 ⊢
  dsimp only at h18 ⊢
  refine TPure.ofE A T0 (T0_ok hP) (hP ▸ Try.func13) rfl _ rfl (by simp) ?_
  cbv
  refine EW.vs [(6, .bool false), (3, .imm [.sl 3 (G.kind.l ks), .int .i64 root]), (1, .int .i64 k), (2, .sl 1 (E.int.l kids))] [] 117 rfl ?_
  cbv
  refine And.intro (Pur.mk (by (repeat (first | exact rfl | exact Emb.purL _ _ | assumption | apply pur_cons | apply pur_sl | apply pur_slt | apply pur_agg | apply pur_tup)))) (And.intro (E.int.Pur _) ?_)
  ((try cbv) <;> (repeat ((with_reducible refine EW.of ?_); cbv)))
  (refine ⟨Ent.of (hP ▸ Try.func18) rfl, ?_⟩; refine TC.pureE h18 ?_; cbv; (repeat (first | exact trivial | refine And.intro (Emb.Pur _ _) ?_ | refine And.intro rfl ?_ | refine And.intro (Pur.mk rfl) ?_ | refine And.intro (Pur.mk (by assumption)) ?_)); ((try cbv) <;> (repeat ((with_reducible refine EW.of ?_); cbv))))
  refine bsplit (fun h => ?_) (fun h => ?_)
  · have hcb : cb = false := by
      have h : A.bnot (A.eq e 0) = true := h
      rw [hne] at h; simpa using h
    replace ho : o = none := by rw [ho, if_neg (fun hc => by obtain ⟨c1, c2, c3⟩ := hc; first | omega | (rw [c1] at hcb; cases hcb))]
    rw [ho] at hr
    replace hr : r = false := hr
    subst hr
    cbv
    ((try cbv) <;> (repeat ((with_reducible refine EW.of ?_); cbv)))
  have hcb : cb = true := by
    have h : A.bnot (A.eq e 0) = false := h
    rw [hne] at h; simpa using h
  ((try cbv) <;> (repeat ((with_reducible refine EW.of ?_); cbv)))
  refine bsplit (fun h => ?_) (fun h => ?_)
  · have h : k < 0 := (by first | exact lt_t h (by first | rfl | assumption) (by first | rfl | assumption) | exact le_t h (by first | rfl | assumption) (by first | rfl | assumption) | exact eq_t h (by first | rfl | assumption) (by first | rfl | assumption) | exact ne_t h (by first | rfl | assumption) (by first | rfl | assumption) | exact lt_nt h (by first | rfl | assumption) (by first | rfl | assumption) | exact le_nt h (by first | rfl | assumption) (by first | rfl | assumption) | exact ne_nt h (by first | rfl | assumption) (by first | rfl | assumption) | exact seq_t h | exact (sne_t h))
    replace ho : o = none := by rw [ho, if_neg (fun hc => by obtain ⟨c1, c2, c3⟩ := hc; first | omega | (rw [c1] at hcb; cases hcb))]
    rw [ho] at hr
    replace hr : r = false := hr
    subst hr
    cbv
    ((try cbv) <;> (repeat ((with_reducible refine EW.of ?_); cbv)))
  have h : ¬ (k < 0) := (by first | exact not_lt_f h (by first | rfl | assumption) (by first | rfl | assumption) | exact not_le_f h (by first | rfl | assumption) (by first | rfl | assumption) | exact eq_f h (by first | rfl | assumption) (by first | rfl | assumption) | exact not_ne_f h (by first | rfl | assumption) (by first | rfl | assumption) | exact not_lt_nf h (by first | rfl | assumption) (by first | rfl | assumption) | exact not_le_nf h (by first | rfl | assumption) (by first | rfl | assumption) | exact not_ne_nf h (by first | rfl | assumption) (by first | rfl | assumption))
  ((try cbv) <;> (repeat ((with_reducible refine EW.of ?_); cbv)))
  have g1 := h
  refine bsplit (fun h => ?_) (fun h => ?_)
  · have h : n ≤ k := (by first | exact lt_t h (by first | rfl | assumption) (by first | rfl | assumption) | exact le_t h (by first | rfl | assumption) (by first | rfl | assumption) | exact eq_t h (by first | rfl | assumption) (by first | rfl | assumption) | exact ne_t h (by first | rfl | assumption) (by first | rfl | assumption) | exact lt_nt h (by first | rfl | assumption) (by first | rfl | assumption) | exact le_nt h (by first | rfl | assumption) (by first | rfl | assumption) | exact ne_nt h (by first | rfl | assumption) (by first | rfl | assumption) | exact seq_t h | exact (sne_t h))
    replace ho : o = none := by rw [ho, if_neg (fun hc => by obtain ⟨c1, c2, c3⟩ := hc; first | omega | (rw [c1] at hcb; cases hcb))]
    rw [ho] at hr
    replace hr : r = false := hr
    subst hr
    cbv
    ((try cbv) <;> (repeat ((with_reducible refine EW.of ?_); cbv)))
  have h : ¬ (n ≤ k) := (by first | exact not_lt_f h (by first | rfl | assumption) (by first | rfl | assumption) | exact not_le_f h (by first | rfl | assumption) (by first | rfl | assumption) | exact eq_f h (by first | rfl | assumption) (by first | rfl | assumption) | exact not_ne_f h (by first | rfl | assumption) (by first | rfl | assumption) | exact not_lt_nf h (by first | rfl | assumption) (by first | rfl | assumption) | exact not_le_nf h (by first | rfl | assumption) (by first | rfl | assumption) | exact not_ne_nf h (by first | rfl | assumption) (by first | rfl | assumption))
  ((try cbv) <;> (repeat ((with_reducible refine EW.of ?_); cbv)))
  have hk0 : k < n := by omega
  rw [if_pos ⟨hcb, by omega, hk0⟩] at ho
  obtain ⟨m, hm⟩ : ∃ m : Nat, k = m := ⟨k.toNat, by omega⟩
  subst hm
  rw [Int.toNat_natCast] at ho
  have hml : m < ks.length := by rw [hn] at hk0; exact Int.ofNat_lt.1 hk0
  obtain ⟨x, hx⟩ : ∃ x, ks[m]? = some x := ⟨_, List.getElem?_eq_getElem hml⟩
  have hxs := hmem x (by rw [ho, hx])
  rw [ho, hx] at hr
  unfold fitsO at hr
  dsimp only at hr
  rw [← hN] at hr
  have hgx := G.getk hx
  obtain ⟨xn, xt, ss⟩ := x
  dsimp only at hgx hr hxs
  have hsl := G.slot.len ss
  have hsk : A.len (G.slot.l ss) = (ss.length : Int) := by rw [A.ok_len, hsl]
  refine bsplit (fun h => ?_) (fun h => ?_)
  · have h : 200 < N := (by first | exact lt_t h (by first | rfl | assumption) (by first | rfl | assumption) | exact le_t h (by first | rfl | assumption) (by first | rfl | assumption) | exact eq_t h (by first | rfl | assumption) (by first | rfl | assumption) | exact ne_t h (by first | rfl | assumption) (by first | rfl | assumption) | exact lt_nt h (by first | rfl | assumption) (by first | rfl | assumption) | exact le_nt h (by first | rfl | assumption) (by first | rfl | assumption) | exact ne_nt h (by first | rfl | assumption) (by first | rfl | assumption) | exact seq_t h | exact (sne_t h))
    rw [if_pos h] at hr
    subst hr
    cbv
    ((try cbv) <;> (repeat ((with_reducible refine EW.of ?_); cbv)))
  have h : ¬ (200 < N) := (by first | exact not_lt_f h (by first | rfl | assumption) (by first | rfl | assumption) | exact not_le_f h (by first | rfl | assumption) (by first | rfl | assumption) | exact eq_f h (by first | rfl | assumption) (by first | rfl | assumption) | exact not_ne_f h (by first | rfl | assumption) (by first | rfl | assumption) | exact not_lt_nf h (by first | rfl | assumption) (by first | rfl | assumption) | exact not_le_nf h (by first | rfl | assumption) (by first | rfl | assumption) | exact not_ne_nf h (by first | rfl | assumption) (by first | rfl | assumption))
  ((try cbv) <;> (repeat ((with_reducible refine EW.of ?_); cbv)))
  rw [if_neg h] at hr
  have h200 : N ≤ 200 := by omega
  obtain ⟨M, hM⟩ : ∃ M, M = N + 1 := ⟨_, rfl⟩
  have hN1 : A.op .add .i64 (A.len (E.int.l kids)) 1 = (M : Int) := by rw [hlk, hM]; exact inc_eq A (by omega)
  have hbd : (A.op .add .i64 (A.len (E.int.l kids)) 1 = A.op .add .i64 (A.len (E.int.l kids)) 1 ∧ 0 ≤ A.op .add .i64 (A.len (E.int.l kids)) 1 ∧ A.op .add .i64 (A.len (E.int.l kids)) 1 ≤ 1000000) := by rw [hN1]; exact ⟨rfl, by omega, by omega⟩
  have htn : M = (A.op .add .i64 (A.len (E.int.l kids)) 1).toNat := by rw [hN1]; rfl
  have hrep := R.rep M
  refine ⟨hbd, M, R.l M fun _ => false, htn, hrep.symm, ?_⟩
  cbv
  ((try cbv) <;> (repeat ((with_reducible refine EW.of ?_); cbv)))
  have hset0 := R.set (n := M) (i := 0) (fun _ => false) true
  refine ⟨0, rfl, by omega, ?_⟩
  cbv
  refine ⟨.bool false, R.l M can0, R.get _ (by omega), hset0.symm, rfl, ?_⟩
  cbv
  ((try cbv) <;> (repeat ((with_reducible refine EW.of ?_); cbv)))
  (refine ⟨_, _, rfl, hgx, ?_⟩; cbv; ((try cbv) <;> (repeat ((with_reducible refine EW.of ?_); cbv))))
  refine TW.vsE [(9, .int .i64 0), (8, .sl 3 (G.slot.l ss)), (7, .row 0 1 0 M), (6, .bool false), (2, .sl 1 (E.int.l kids))] [some (.arr 1 (R.l M can0))] 117 rfl ?_
  cbv
  (repeat (first | exact trivial | refine And.intro (R.Pur _ _) ?_ | refine And.intro (Emb.Pur _ _) ?_ | refine And.intro (inc_eq A (by omega)) ?_ | refine And.intro rfl ?_ | refine And.intro (Pur.mk rfl) ?_))
  obtain ⟨S, hS⟩ : ∃ S : LI (Nat × (Nat → Bool)), S = ⟨fun x => [(9, .int .i64 x.1), (8, .sl 3 (G.slot.l ss)), (7, .row 0 1 0 M), (6, .bool false), (2, .sl 1 (E.int.l kids))], fun x => [some (.arr 1 (R.l M x.2))], fun x => x.1 ≤ ss.length ∧ r = slotsF kids (ss.drop x.1) x.2 N, fun x => ss.length - x.1⟩ := ⟨_, rfl⟩
  refine TW.loopM A (T0_ok hP) S _ rfl (0, can0) ?_ ?_ ?_
  · rw [hS]; exact ⟨Nat.zero_le _, hr⟩
  · rw [hS]
    cbv
    (repeat (first | exact trivial | refine And.intro (R.Pur _ _) ?_ | refine And.intro (Emb.Pur _ _) ?_ | refine And.intro (inc_eq A (by omega)) ?_ | refine And.intro rfl ?_ | refine And.intro (Pur.mk rfl) ?_))
  rintro ⟨j, can⟩ hj l1 L1 e1 e2
  rw [hS] at hj e1 e2
  dsimp only at hj e1 e2
  obtain ⟨hj, hinv⟩ := hj
  subst e1 e2
  cbv
  ((try cbv) <;> (repeat ((with_reducible refine EW.of ?_); cbv)))
  refine bsplit (fun h1 => ?_) (fun h1 => ?_)
  · have h1 : j < ss.length := lt_nt h1 rfl hsk
    obtain ⟨s, hs⟩ : ∃ s, ss[j]? = some s := ⟨_, List.getElem?_eq_getElem h1⟩
    rw [slotsF_drop hs] at hinv
    have hgs := G.gets E hs
    have hks9 := hxs.2 s (List.mem_of_getElem? hs)
    ((try cbv) <;> (repeat ((with_reducible refine EW.of ?_); cbv)))
    refine ⟨hbd, M, R.l M fun _ => false, htn, hrep.symm, ?_⟩
    cbv
    rw [← hN, ← hM] at hinv
    obtain ⟨slk, sll, slm⟩ := s
    dsimp only at hgs hks9 hinv ⊢
    ((try cbv) <;> (repeat ((with_reducible refine EW.of ?_); cbv)))
    obtain ⟨S2, hS2⟩ : ∃ S : LI (Nat × (Nat → Bool)), S = ⟨fun x => [(11, .int .i64 x.1), (10, .row 1 1 0 M), (9, .int .i64 j), (8, .sl 3 (G.slot.l ss)), (7, .row 0 1 0 M), (6, .bool false), (2, .sl 1 (E.int.l kids))], fun x => [some (.arr 1 (R.l M can)), some (.arr 1 (R.l M x.2))], fun x => x.1 ≤ M ∧ r = slotsF kids (ss.drop (j + 1)) (outF kids ⟨slk, sll, slm⟩ can (M - x.1) x.1 x.2) N, fun x => M - x.1⟩ := ⟨_, rfl⟩
    refine TW.loopM A (T0_ok hP) S2 _ rfl (0, fun _ => false) ?_ ?_ ?_
    · rw [hS2]; exact ⟨Nat.zero_le _, hinv⟩
    · rw [hS2]
      cbv
      (repeat (first | exact trivial | refine And.intro (R.Pur _ _) ?_ | refine And.intro (Emb.Pur _ _) ?_ | refine And.intro (inc_eq A (by omega)) ?_ | refine And.intro rfl ?_ | refine And.intro (Pur.mk rfl) ?_))
    rintro ⟨a, nx⟩ ha l1 L1 e1 e2
    rw [hS2] at ha e1 e2
    dsimp only at ha e1 e2
    obtain ⟨ha, hinv2⟩ := ha
    subst e1 e2
    cbv
    ((try cbv) <;> (repeat ((with_reducible refine EW.of ?_); cbv)))
    refine bsplit (fun h2 => ?_) (fun h2 => ?_)
    · have h2 : a ≤ N := le_nt h2 rfl hlk
      have ha1 : a + 1 ≤ M := by omega
      rw [show M - a = (M - (a + 1)) + 1 by omega, outF, show kids.length + 1 = M by rw [hM, hN]] at hinv2
      have hgc := R.get can (show a < M by omega)
      obtain ⟨b, hb⟩ : ∃ b, b = can a := ⟨_, rfl⟩
      rw [← hb] at hgc hinv2
      ((try cbv) <;> (repeat ((with_reducible refine EW.of ?_); cbv)))
      refine ⟨a, rfl, by omega, ?_⟩
      rw [Nat.zero_add]
      cbv
      refine ⟨_, hgc, ?_⟩
      cbv
      cases b with
      | false =>
        rw [if_neg (by decide)] at hinv2
        ((try cbv) <;> (repeat ((with_reducible refine EW.of ?_); cbv)))
        refine LM.of (a + 1, nx) rfl ?_ ?_ ?_
        · rw [hS2]; exact ⟨ha1, hinv2⟩
        · rw [hS2]; show M - (a + 1) < M - a; omega
        · rw [hS2]
          cbv
          (repeat (first | exact trivial | refine And.intro (R.Pur _ _) ?_ | refine And.intro (Emb.Pur _ _) ?_ | refine And.intro (inc_eq A (by omega)) ?_ | refine And.intro rfl ?_ | refine And.intro (Pur.mk rfl) ?_))
      | true =>
        rw [if_pos rfl] at hinv2
        ((try cbv) <;> (repeat ((with_reducible refine EW.of ?_); cbv)))
        obtain ⟨S3, hS3⟩ : ∃ S : LI (Nat × (Nat → Bool)), S = ⟨fun x => [(12, .int .i64 x.1), (11, .int .i64 a), (10, .row 1 1 0 M), (9, .int .i64 j), (8, .sl 3 (G.slot.l ss)), (7, .row 0 1 0 M), (6, .bool false), (2, .sl 1 (E.int.l kids))], fun x => [some (.arr 1 (R.l M can)), some (.arr 1 (R.l M x.2))], fun x => a + x.1 ≤ M ∧ r = slotsF kids (ss.drop (j + 1)) (outF kids ⟨slk, sll, slm⟩ can (M - (a + 1)) (a + 1) (inF kids ⟨slk, sll, slm⟩ a (M - a - x.1) x.1 x.2)) N, fun x => M - x.1⟩ := ⟨_, rfl⟩
        refine TW.loopM A (T0_ok hP) S3 _ rfl (0, nx) ?_ ?_ ?_
        · rw [hS3]; exact ⟨by show a + 0 ≤ M; omega, hinv2⟩
        · rw [hS3]
          cbv
          (repeat (first | exact trivial | refine And.intro (R.Pur _ _) ?_ | refine And.intro (Emb.Pur _ _) ?_ | refine And.intro (inc_eq A (by omega)) ?_ | refine And.intro rfl ?_ | refine And.intro (Pur.mk rfl) ?_))
        clear hinv2 hgc
        rintro ⟨n, nx⟩ hn l1 L1 e1 e2
        rw [hS3] at hn e1 e2
        dsimp only at hn e1 e2
        obtain ⟨hn, hinv2⟩ := hn
        subst e1 e2
        have hadd := add_nat A (a := a) (b := n) (by omega)
        cbv
        ((try cbv) <;> (repeat ((with_reducible refine EW.of ?_); cbv)))
        (refine ⟨_, _, rfl, hgs, ?_⟩; cbv; ((try cbv) <;> (repeat ((with_reducible refine EW.of ?_); cbv))))
        refine bsplit (fun h4 => ?_) (fun h4 => ?_)
        · have h4 : ¬ slm < (n : Int) := Int.not_lt.2 (le_t h4 rfl rfl)
          ((try cbv) <;> (repeat ((with_reducible refine EW.of ?_); cbv)))
          refine bsplit (fun h3 => ?_) (fun h3 => ?_)
          · have h3 : a + n ≤ N := le_nt h3 hadd hlk
            rw [show M - a - n = (M - a - (n + 1)) + 1 by omega, inF] at hinv2
            obtain ⟨an, han⟩ : ∃ an, an = a + n := ⟨_, rfl⟩
            rw [← han] at hadd
            have hnx := R.get nx (show an < M by omega)
            have han2 : a + (n + 1) ≤ M := by omega
            obtain ⟨old, hold⟩ : ∃ b, b = nx an := ⟨_, rfl⟩
            rw [← hold] at hnx
            rw [← han, ← hold] at hinv2
            ((try cbv) <;> (repeat ((with_reducible refine EW.of ?_); cbv)))
            (refine TW.draw (A := A) (T0_ok hP) (hP ▸ follows_mixed) (by kernel_rfl) rfl ?_; cbv)
            by_cases hn0 : n = 0
            · refine bno (show A.lt 0 (n : Int) = false from ltF (by omega)) ?_
              rw [if_neg (fun hc => hc.elim h4 (fun hc => absurd hc.1 (by omega)))] at hinv2
              ((try cbv) <;> (repeat ((with_reducible refine EW.of ?_); cbv)))
              (refine ⟨_, _, rfl, hgs, ?_⟩; cbv; ((try cbv) <;> (repeat ((with_reducible refine EW.of ?_); cbv))))
              refine bsplit (fun h5 => ?_) (fun h5 => ?_)
              · have h5 : sll ≤ (n : Int) := le_t h5 rfl rfl
                obtain ⟨nx2, hnx2⟩ : ∃ f, f = upd nx an true := ⟨_, rfl⟩
                rw [decide_eq_true h5, Bool.or_true, ← hnx2] at hinv2
                have hset := R.set (n := M) (i := an) nx true
                rw [← hnx2] at hset
                ((try cbv) <;> (repeat ((with_reducible refine EW.of ?_); cbv)))
                refine ⟨an, hadd, by omega, ?_⟩
                rw [Nat.zero_add]
                cbv
                refine ⟨_, R.l M nx2, hnx, hset.symm, rfl, ?_⟩
                cbv
                ((try cbv) <;> (repeat ((with_reducible refine EW.of ?_); cbv)))
                refine LM.of (n + 1, nx2) rfl ?_ ?_ ?_
                · rw [hS3]; exact ⟨han2, hinv2⟩
                · rw [hS3]; show M - (n + 1) < M - n; omega
                · rw [hS3]
                  cbv
                  (repeat (first | exact trivial | refine And.intro (R.Pur _ _) ?_ | refine And.intro (Emb.Pur _ _) ?_ | refine And.intro (inc_eq A (by omega)) ?_ | refine And.intro rfl ?_ | refine And.intro (Pur.mk rfl) ?_))
              · have h5 : ¬ sll ≤ (n : Int) := fun hc => absurd (le_f h5 rfl rfl) (Int.not_lt.2 hc)
                obtain ⟨nx2, hnx2⟩ : ∃ f, f = nx := ⟨_, rfl⟩
                rw [decide_eq_false h5, Bool.or_false, hold, upd_same, ← hnx2] at hinv2
                rw [← hnx2]
                ((try cbv) <;> (repeat ((with_reducible refine EW.of ?_); cbv)))
                refine LM.of (n + 1, nx2) rfl ?_ ?_ ?_
                · rw [hS3]; exact ⟨han2, hinv2⟩
                · rw [hS3]; show M - (n + 1) < M - n; omega
                · rw [hS3]
                  cbv
                  (repeat (first | exact trivial | refine And.intro (R.Pur _ _) ?_ | refine And.intro (Emb.Pur _ _) ?_ | refine And.intro (inc_eq A (by omega)) ?_ | refine And.intro rfl ?_ | refine And.intro (Pur.mk rfl) ?_))
            · refine byes (show A.lt 0 (n : Int) = true from ltT (by omega)) ?_
              have hsub0 : A.op .sub .i64 (an : Int) 1 = ((an - 1 : Nat) : Int) := by rw [sub_i64 rfl rfl (by omega) (by omega)]; omega
              have hsub : A.op .sub .i64 (A.op .add .i64 (a : Int) (n : Int)) 1 = ((an - 1 : Nat) : Int) := by rw [hadd]; exact hsub0
              obtain ⟨x, hx⟩ : ∃ x, kids[an - 1]? = some x := ⟨_, List.getElem?_eq_getElem (by omega)⟩
              have k39 := may39 A E hP slk hks9 sll slm x
              have hgd : kids.getD (an - 1) 0 = x := by rw [List.getD_eq_getElem?_getD, hx]; rfl
              rw [hgd] at hinv2
              obtain ⟨mb, hmb⟩ : ∃ b, b = mayB x slk := ⟨_, rfl⟩
              rw [← hmb] at k39 hinv2
              cbv
              refine ⟨_, _, rfl, hgs, ?_⟩
              cbv
              refine ⟨an - 1, _, hsub, E.geti hx, ?_⟩
              cbv
              (refine ⟨Ent.of (hP ▸ Try.func39) rfl, ?_⟩; refine ⟨_, TC.pureX k39 (by cbv; (repeat (first | exact trivial | refine And.intro (Emb.Pur _ _) ?_ | refine And.intro rfl ?_ | refine And.intro (Pur.mk rfl) ?_ | refine And.intro (Pur.mk (by assumption)) ?_))), ?_⟩; cbv)
              cases mb with
              | true =>
                rw [if_neg (fun hc => hc.elim h4 (fun hc => by cases hc.2))] at hinv2
                ((try cbv) <;> (repeat ((with_reducible refine EW.of ?_); cbv)))
                (refine ⟨_, _, rfl, hgs, ?_⟩; cbv; ((try cbv) <;> (repeat ((with_reducible refine EW.of ?_); cbv))))
                refine bsplit (fun h5 => ?_) (fun h5 => ?_)
                · have h5 : sll ≤ (n : Int) := le_t h5 rfl rfl
                  obtain ⟨nx2, hnx2⟩ : ∃ f, f = upd nx an true := ⟨_, rfl⟩
                  rw [decide_eq_true h5, Bool.or_true, ← hnx2] at hinv2
                  have hset := R.set (n := M) (i := an) nx true
                  rw [← hnx2] at hset
                  ((try cbv) <;> (repeat ((with_reducible refine EW.of ?_); cbv)))
                  refine ⟨an, hadd, by omega, ?_⟩
                  rw [Nat.zero_add]
                  cbv
                  refine ⟨_, R.l M nx2, hnx, hset.symm, rfl, ?_⟩
                  cbv
                  ((try cbv) <;> (repeat ((with_reducible refine EW.of ?_); cbv)))
                  refine LM.of (n + 1, nx2) rfl ?_ ?_ ?_
                  · rw [hS3]; exact ⟨han2, hinv2⟩
                  · rw [hS3]; show M - (n + 1) < M - n; omega
                  · rw [hS3]
                    cbv
                    (repeat (first | exact trivial | refine And.intro (R.Pur _ _) ?_ | refine And.intro (Emb.Pur _ _) ?_ | refine And.intro (inc_eq A (by omega)) ?_ | refine And.intro rfl ?_ | refine And.intro (Pur.mk rfl) ?_))
                · have h5 : ¬ sll ≤ (n : Int) := fun hc => absurd (le_f h5 rfl rfl) (Int.not_lt.2 hc)
                  obtain ⟨nx2, hnx2⟩ : ∃ f, f = nx := ⟨_, rfl⟩
                  rw [decide_eq_false h5, Bool.or_false, hold, upd_same, ← hnx2] at hinv2
                  rw [← hnx2]
                  ((try cbv) <;> (repeat ((with_reducible refine EW.of ?_); cbv)))
                  refine LM.of (n + 1, nx2) rfl ?_ ?_ ?_
                  · rw [hS3]; exact ⟨han2, hinv2⟩
                  · rw [hS3]; show M - (n + 1) < M - n; omega
                  · rw [hS3]
                    cbv
                    (repeat (first | exact trivial | refine And.intro (R.Pur _ _) ?_ | refine And.intro (Emb.Pur _ _) ?_ | refine And.intro (inc_eq A (by omega)) ?_ | refine And.intro rfl ?_ | refine And.intro (Pur.mk rfl) ?_))
              | false =>
                rw [if_pos (.inr ⟨by omega, rfl⟩)] at hinv2
                ((try cbv) <;> (repeat ((with_reducible refine EW.of ?_); cbv)))
                refine LM.of (a + 1, nx) rfl ?_ ?_ ?_
                · rw [hS2]; exact ⟨ha1, hinv2⟩
                · rw [hS2]; show M - (a + 1) < M - a; omega
                · rw [hS2]
                  cbv
                  (repeat (first | exact trivial | refine And.intro (R.Pur _ _) ?_ | refine And.intro (Emb.Pur _ _) ?_ | refine And.intro (inc_eq A (by omega)) ?_ | refine And.intro rfl ?_ | refine And.intro (Pur.mk rfl) ?_))
          · have h3 : N < a + n := le_nf h3 hadd hlk
            rw [show M - a - n = 0 by omega, inF] at hinv2
            ((try cbv) <;> (repeat ((with_reducible refine EW.of ?_); cbv)))
            refine LM.of (a + 1, nx) rfl ?_ ?_ ?_
            · rw [hS2]; exact ⟨ha1, hinv2⟩
            · rw [hS2]; show M - (a + 1) < M - a; omega
            · rw [hS2]
              cbv
              (repeat (first | exact trivial | refine And.intro (R.Pur _ _) ?_ | refine And.intro (Emb.Pur _ _) ?_ | refine And.intro (inc_eq A (by omega)) ?_ | refine And.intro rfl ?_ | refine And.intro (Pur.mk rfl) ?_))
        · have h4 : slm < (n : Int) := le_f h4 rfl rfl
          rw [inF_stop h4] at hinv2
          ((try cbv) <;> (repeat ((with_reducible refine EW.of ?_); cbv)))
          refine LM.of (a + 1, nx) rfl ?_ ?_ ?_
          · rw [hS2]; exact ⟨ha1, hinv2⟩
          · rw [hS2]; show M - (a + 1) < M - a; omega
          · rw [hS2]
            cbv
            (repeat (first | exact trivial | refine And.intro (R.Pur _ _) ?_ | refine And.intro (Emb.Pur _ _) ?_ | refine And.intro (inc_eq A (by omega)) ?_ | refine And.intro rfl ?_ | refine And.intro (Pur.mk rfl) ?_))
    · have h2 : N < a := le_nf h2 rfl hlk
      rw [show M - a = 0 by omega, outF] at hinv2
      ((try cbv) <;> (repeat ((with_reducible refine EW.of ?_); cbv)))
      refine LM.of (j + 1, nx) rfl ?_ ?_ ?_
      · rw [hS]; exact ⟨by show j + 1 ≤ _; omega, hinv2⟩
      · rw [hS]; show ss.length - (j + 1) < ss.length - j; omega
      · rw [hS]
        cbv
        (repeat (first | exact trivial | refine And.intro (R.Pur _ _) ?_ | refine And.intro (Emb.Pur _ _) ?_ | refine And.intro (inc_eq A (by omega)) ?_ | refine And.intro rfl ?_ | refine And.intro (Pur.mk rfl) ?_))
  · have h1 : ss.length ≤ j := lt_nf h1 rfl hsk
    rw [List.drop_eq_nil_of_le h1] at hinv
    replace hinv : r = can N := hinv
    ((try cbv) <;> (repeat ((with_reducible refine EW.of ?_); cbv)))
    have hgN := R.get can (show N < M by omega)
    rw [← hinv] at hgN
    refine ⟨N, hlk, by omega, ?_⟩
    rw [Nat.zero_add]
    cbv
    refine ⟨_, hgN, ?_⟩
    cbv
    ((try cbv) <;> (repeat ((with_reducible refine EW.of ?_); cbv)))
end Go.Proofs.Ytlngpfocngfokaa
