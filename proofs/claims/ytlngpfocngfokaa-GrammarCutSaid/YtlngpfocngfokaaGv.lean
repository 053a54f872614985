import Derived.Test.YtlngpfocngfokaaGu
/-! The law about rows put together. -/
namespace Go.Proofs.Ytlngpfocngfokaa
open Go.Proofs.Ytlngpfocngfokaa.Tw
set_option maxRecDepth 100000 in
set_option maxHeartbeats 4000000 in
theorem law4 (A : Ar) (E : Em) (G : EmG) (H : EmN) (R : EmR) {P : Program} (hP : P = Try.prog) (g : Gra) (hg : g.ok) (k : Int) (counts picks kids : List Int) (hkl : kids.length ≤ 9223372036854775807) : TPure P 4 [G.gv g, .int .i64 k, .sl 1 (E.int.l counts), .sl 1 (E.int.l picks), .sl 1 (E.int.l kids)] (.bool true) := by
  have h10 := Great10 A E G hP g hg
  have h14 := Check14 A E G H hP g hg
  have h11 := wakes11 A E G H R hP
  have h12 := fun l hl => Fits12 A E G H R hP g hg k l hl
  have h15 := Least15 A E G H hP g hg k
  have hfl := fun l => fits_least (A := A) (g := g) (k := k) (kids := l)
  have hmf := fun x hx l => made_fits (g := g) (k := k) (x := x) hx (l := l)
  have hcf := fun h i x => check_fair (g := g) h (i := i) (x := x)
  have hko : ∀ (i : Nat) (x : Knd), checkB g = true → k = (i : Int) → g.kinds[i]? = some x → kindO g k = some x := fun i x h1 h2 h3 => by
    unfold kindO
    rw [if_pos ⟨h1, by omega, by have := (List.getElem?_eq_some_iff.1 h3).1; omega⟩, h2, Int.toNat_natCast]
    exact h3
  have hslots := hg.slots
  obtain ⟨b, hb⟩ : ∃ b, b = greatG g := ⟨_, rfl⟩
  rw [← hb] at h10
  have hlc : A.len (E.int.l counts) = (counts.length : Int) := by rw [A.ok_len, E.int.len]
  have hlp : A.len (E.int.l picks) = (picks.length : Int) := by rw [A.ok_len, E.int.len]
  have hlk : A.len (E.int.l kids) = (kids.length : Int) := by rw [A.ok_len, E.int.len]
  obtain ⟨cb, hcb⟩ : ∃ b, b = checkB g := ⟨_, rfl⟩
  rw [← hcb] at h14 hko hcf
  obtain ⟨e, he⟩ : ∃ e, e = errC cb := ⟨_, rfl⟩
  rw [← he] at h14
  have hne : A.bnot (A.eq e 0) = !cb := by rw [he]; exact errC_ne
  obtain ⟨least, hle⟩ : ∃ n, n = leastI A g k := ⟨_, rfl⟩
  rw [← hle] at h15 hfl
  obtain ⟨fit, hfit⟩ : ∃ f, f = fitsB g k := ⟨_, rfl⟩
  rw [← hfit] at h12 hfl hmf
  generalize kindO g k = ko at hko hmf
  obtain ⟨ks, root⟩ := g
  dsimp only at hko hcf hslots
  have hkk : A.len (G.kind.l ks) = (ks.length : Int) := by rw [A.ok_len, G.kind.len ks]
  obtain ⟨n, hn⟩ : ∃ n : Int, n = ks.length := ⟨_, rfl⟩
  have hnk : A.len (G.kind.l ks) = n := by rw [hkk, hn]
  unfold EmG.gv at h10 h12 h14 h15 ⊢
  dsimp only at h10 h12 h14 h15 ⊢
  have pg : Tw.Pur [AV.sl 3 (G.kind.l ks), .int .i64 root] := Pur.mk (by (repeat (first | exact rfl | exact Emb.purL _ _ | assumption | apply pur_cons | apply pur_sl | apply pur_slt | apply pur_agg | apply pur_tup)))
  refine TPure.ofE A T0 (T0_ok hP) (hP ▸ Try.func4) rfl _ rfl (by simp) ?_
  cbv
  refine EW.vs [(10, .bool false), (5, .imm [.sl 3 (G.kind.l ks), .int .i64 root]), (1, .int .i64 k), (2, .sl 1 (E.int.l counts)), (3, .sl 1 (E.int.l picks)), (4, .sl 1 (E.int.l kids))] [] 145 rfl ?_
  cbv
  refine And.intro (Pur.mk (by (repeat (first | exact rfl | exact Emb.purL _ _ | assumption | apply pur_cons | apply pur_sl | apply pur_slt | apply pur_agg | apply pur_tup)))) (And.intro (E.int.Pur _) (And.intro (E.int.Pur _) (And.intro (E.int.Pur _) ?_)))
  ((try cbv) <;> (repeat ((with_reducible refine EW.of ?_); cbv)))
  (refine ⟨Ent.of (hP ▸ Try.func10) rfl, ?_⟩; refine TC.pureE h10 ?_; cbv; (repeat (first | exact trivial | refine And.intro (Emb.Pur _ _) ?_ | refine And.intro rfl ?_ | refine And.intro (Pur.mk rfl) ?_ | refine And.intro (Pur.mk (by assumption)) ?_)); ((try cbv) <;> (repeat ((with_reducible refine EW.of ?_); cbv))))
  cases b with
  | true =>
    ((try cbv) <;> (repeat ((with_reducible refine EW.of ?_); cbv)))
    ((try cbv) <;> (repeat ((with_reducible refine EW.of ?_); cbv)))
    (refine ⟨Ent.of (hP ▸ Try.func11) rfl, ?_⟩; refine TC.pureE h11 ?_; cbv; (repeat (first | exact trivial | refine And.intro (Emb.Pur _ _) ?_ | refine And.intro rfl ?_ | refine And.intro (Pur.mk rfl) ?_ | refine And.intro (Pur.mk (by assumption)) ?_)); ((try cbv) <;> (repeat ((with_reducible refine EW.of ?_); cbv))))
  | false =>
    ((try cbv) <;> (repeat ((with_reducible refine EW.of ?_); cbv)))
    (refine ⟨Ent.of (hP ▸ Try.func14) rfl, ?_⟩; refine TC.pureE h14 ?_; cbv; (repeat (first | exact trivial | refine And.intro (Emb.Pur _ _) ?_ | refine And.intro rfl ?_ | refine And.intro (Pur.mk rfl) ?_ | refine And.intro (Pur.mk (by assumption)) ?_)); ((try cbv) <;> (repeat ((with_reducible refine EW.of ?_); cbv))))
    refine bsplit (fun h => ?_) (fun h => ?_)
    · skip
      ((try cbv) <;> (repeat ((with_reducible refine EW.of ?_); cbv)))
      (refine ⟨Ent.of (hP ▸ Try.func11) rfl, ?_⟩; refine TC.pureE h11 ?_; cbv; (repeat (first | exact trivial | refine And.intro (Emb.Pur _ _) ?_ | refine And.intro rfl ?_ | refine And.intro (Pur.mk rfl) ?_ | refine And.intro (Pur.mk (by assumption)) ?_)); ((try cbv) <;> (repeat ((with_reducible refine EW.of ?_); cbv))))
    have hct : cb = true := by
      have h : A.bnot (A.eq e 0) = false := h
      rw [hne] at h; simpa using h
    ((try cbv) <;> (repeat ((with_reducible refine EW.of ?_); cbv)))
    refine bsplit (fun h => ?_) (fun h => ?_)
    · have h : k < 0 := (by first | exact lt_t h (by first | rfl | assumption) (by first | rfl | assumption) | exact le_t h (by first | rfl | assumption) (by first | rfl | assumption) | exact eq_t h (by first | rfl | assumption) (by first | rfl | assumption) | exact ne_t h (by first | rfl | assumption) (by first | rfl | assumption) | exact lt_nt h (by first | rfl | assumption) (by first | rfl | assumption) | exact le_nt h (by first | rfl | assumption) (by first | rfl | assumption) | exact ne_nt h (by first | rfl | assumption) (by first | rfl | assumption) | exact seq_t h | exact (sne_t h))
      ((try cbv) <;> (repeat ((with_reducible refine EW.of ?_); cbv)))
      (refine ⟨Ent.of (hP ▸ Try.func11) rfl, ?_⟩; refine TC.pureE h11 ?_; cbv; (repeat (first | exact trivial | refine And.intro (Emb.Pur _ _) ?_ | refine And.intro rfl ?_ | refine And.intro (Pur.mk rfl) ?_ | refine And.intro (Pur.mk (by assumption)) ?_)); ((try cbv) <;> (repeat ((with_reducible refine EW.of ?_); cbv))))
    have h : ¬ (k < 0) := (by first | exact not_lt_f h (by first | rfl | assumption) (by first | rfl | assumption) | exact not_le_f h (by first | rfl | assumption) (by first | rfl | assumption) | exact eq_f h (by first | rfl | assumption) (by first | rfl | assumption) | exact not_ne_f h (by first | rfl | assumption) (by first | rfl | assumption) | exact not_lt_nf h (by first | rfl | assumption) (by first | rfl | assumption) | exact not_le_nf h (by first | rfl | assumption) (by first | rfl | assumption) | exact not_ne_nf h (by first | rfl | assumption) (by first | rfl | assumption))
    ((try cbv) <;> (repeat ((with_reducible refine EW.of ?_); cbv)))
    have hk0 := h
    refine bsplit (fun h => ?_) (fun h => ?_)
    · have h : n ≤ k := (by first | exact lt_t h (by first | rfl | assumption) (by first | rfl | assumption) | exact le_t h (by first | rfl | assumption) (by first | rfl | assumption) | exact eq_t h (by first | rfl | assumption) (by first | rfl | assumption) | exact ne_t h (by first | rfl | assumption) (by first | rfl | assumption) | exact lt_nt h (by first | rfl | assumption) (by first | rfl | assumption) | exact le_nt h (by first | rfl | assumption) (by first | rfl | assumption) | exact ne_nt h (by first | rfl | assumption) (by first | rfl | assumption) | exact seq_t h | exact (sne_t h))
      ((try cbv) <;> (repeat ((with_reducible refine EW.of ?_); cbv)))
      (refine ⟨Ent.of (hP ▸ Try.func11) rfl, ?_⟩; refine TC.pureE h11 ?_; cbv; (repeat (first | exact trivial | refine And.intro (Emb.Pur _ _) ?_ | refine And.intro rfl ?_ | refine And.intro (Pur.mk rfl) ?_ | refine And.intro (Pur.mk (by assumption)) ?_)); ((try cbv) <;> (repeat ((with_reducible refine EW.of ?_); cbv))))
    have h : ¬ (n ≤ k) := (by first | exact not_lt_f h (by first | rfl | assumption) (by first | rfl | assumption) | exact not_le_f h (by first | rfl | assumption) (by first | rfl | assumption) | exact eq_f h (by first | rfl | assumption) (by first | rfl | assumption) | exact not_ne_f h (by first | rfl | assumption) (by first | rfl | assumption) | exact not_lt_nf h (by first | rfl | assumption) (by first | rfl | assumption) | exact not_le_nf h (by first | rfl | assumption) (by first | rfl | assumption) | exact not_ne_nf h (by first | rfl | assumption) (by first | rfl | assumption))
    ((try cbv) <;> (repeat ((with_reducible refine EW.of ?_); cbv)))
    have hk1 : k < (ks.length : Int) := Int.lt_of_lt_of_le (Int.not_le.1 h) (Int.le_of_eq hn)
    obtain ⟨m, hm⟩ : ∃ m : Nat, k = m := ⟨k.toNat, by omega⟩
    obtain ⟨x, hx⟩ : ∃ x, ks[m]? = some x := ⟨_, List.getElem?_eq_getElem (by omega)⟩
    have hgx := G.getk hx
    replace hko := hko m x hct hm hx
    replace hmf := hmf x hko
    replace hcf := hcf hct m x hx
    replace hslots := hslots x (List.mem_of_getElem? hx)
    obtain ⟨xn, xt, ss⟩ := x
    dsimp only at hgx hmf hcf hslots
    have hsk : A.len (G.slot.l ss) = (ss.length : Int) := by rw [A.ok_len, G.slot.len]
    subst hm
    refine bsplit (fun h => ?_) (fun h => ?_)
    · have h : 20 < counts.length := (by first | exact lt_t h (by first | rfl | assumption) (by first | rfl | assumption) | exact le_t h (by first | rfl | assumption) (by first | rfl | assumption) | exact eq_t h (by first | rfl | assumption) (by first | rfl | assumption) | exact ne_t h (by first | rfl | assumption) (by first | rfl | assumption) | exact lt_nt h (by first | rfl | assumption) (by first | rfl | assumption) | exact le_nt h (by first | rfl | assumption) (by first | rfl | assumption) | exact ne_nt h (by first | rfl | assumption) (by first | rfl | assumption) | exact seq_t h | exact (sne_t h))
      ((try cbv) <;> (repeat ((with_reducible refine EW.of ?_); cbv)))
      (refine ⟨Ent.of (hP ▸ Try.func11) rfl, ?_⟩; refine TC.pureE h11 ?_; cbv; (repeat (first | exact trivial | refine And.intro (Emb.Pur _ _) ?_ | refine And.intro rfl ?_ | refine And.intro (Pur.mk rfl) ?_ | refine And.intro (Pur.mk (by assumption)) ?_)); ((try cbv) <;> (repeat ((with_reducible refine EW.of ?_); cbv))))
    have h : ¬ (20 < counts.length) := (by first | exact not_lt_f h (by first | rfl | assumption) (by first | rfl | assumption) | exact not_le_f h (by first | rfl | assumption) (by first | rfl | assumption) | exact eq_f h (by first | rfl | assumption) (by first | rfl | assumption) | exact not_ne_f h (by first | rfl | assumption) (by first | rfl | assumption) | exact not_lt_nf h (by first | rfl | assumption) (by first | rfl | assumption) | exact not_le_nf h (by first | rfl | assumption) (by first | rfl | assumption) | exact not_ne_nf h (by first | rfl | assumption) (by first | rfl | assumption))
    ((try cbv) <;> (repeat ((with_reducible refine EW.of ?_); cbv)))
    have hc20 := h
    refine bsplit (fun h => ?_) (fun h => ?_)
    · have h : 300 < picks.length := (by first | exact lt_t h (by first | rfl | assumption) (by first | rfl | assumption) | exact le_t h (by first | rfl | assumption) (by first | rfl | assumption) | exact eq_t h (by first | rfl | assumption) (by first | rfl | assumption) | exact ne_t h (by first | rfl | assumption) (by first | rfl | assumption) | exact lt_nt h (by first | rfl | assumption) (by first | rfl | assumption) | exact le_nt h (by first | rfl | assumption) (by first | rfl | assumption) | exact ne_nt h (by first | rfl | assumption) (by first | rfl | assumption) | exact seq_t h | exact (sne_t h))
      ((try cbv) <;> (repeat ((with_reducible refine EW.of ?_); cbv)))
      (refine ⟨Ent.of (hP ▸ Try.func11) rfl, ?_⟩; refine TC.pureE h11 ?_; cbv; (repeat (first | exact trivial | refine And.intro (Emb.Pur _ _) ?_ | refine And.intro rfl ?_ | refine And.intro (Pur.mk rfl) ?_ | refine And.intro (Pur.mk (by assumption)) ?_)); ((try cbv) <;> (repeat ((with_reducible refine EW.of ?_); cbv))))
    have h : ¬ (300 < picks.length) := (by first | exact not_lt_f h (by first | rfl | assumption) (by first | rfl | assumption) | exact not_le_f h (by first | rfl | assumption) (by first | rfl | assumption) | exact eq_f h (by first | rfl | assumption) (by first | rfl | assumption) | exact not_ne_f h (by first | rfl | assumption) (by first | rfl | assumption) | exact not_lt_nf h (by first | rfl | assumption) (by first | rfl | assumption) | exact not_le_nf h (by first | rfl | assumption) (by first | rfl | assumption) | exact not_ne_nf h (by first | rfl | assumption) (by first | rfl | assumption))
    ((try cbv) <;> (repeat ((with_reducible refine EW.of ?_); cbv)))
    have hp300 := h
    refine bsplit (fun h => ?_) (fun h => ?_)
    · have h : 300 < kids.length := (by first | exact lt_t h (by first | rfl | assumption) (by first | rfl | assumption) | exact le_t h (by first | rfl | assumption) (by first | rfl | assumption) | exact eq_t h (by first | rfl | assumption) (by first | rfl | assumption) | exact ne_t h (by first | rfl | assumption) (by first | rfl | assumption) | exact lt_nt h (by first | rfl | assumption) (by first | rfl | assumption) | exact le_nt h (by first | rfl | assumption) (by first | rfl | assumption) | exact ne_nt h (by first | rfl | assumption) (by first | rfl | assumption) | exact seq_t h | exact (sne_t h))
      ((try cbv) <;> (repeat ((with_reducible refine EW.of ?_); cbv)))
      (refine ⟨Ent.of (hP ▸ Try.func11) rfl, ?_⟩; refine TC.pureE h11 ?_; cbv; (repeat (first | exact trivial | refine And.intro (Emb.Pur _ _) ?_ | refine And.intro rfl ?_ | refine And.intro (Pur.mk rfl) ?_ | refine And.intro (Pur.mk (by assumption)) ?_)); ((try cbv) <;> (repeat ((with_reducible refine EW.of ?_); cbv))))
    have h : ¬ (300 < kids.length) := (by first | exact not_lt_f h (by first | rfl | assumption) (by first | rfl | assumption) | exact not_le_f h (by first | rfl | assumption) (by first | rfl | assumption) | exact eq_f h (by first | rfl | assumption) (by first | rfl | assumption) | exact not_ne_f h (by first | rfl | assumption) (by first | rfl | assumption) | exact not_lt_nf h (by first | rfl | assumption) (by first | rfl | assumption) | exact not_le_nf h (by first | rfl | assumption) (by first | rfl | assumption) | exact not_ne_nf h (by first | rfl | assumption) (by first | rfl | assumption))
    ((try cbv) <;> (repeat ((with_reducible refine EW.of ?_); cbv)))
    have hk300 := h
    ((try cbv) <;> (repeat ((with_reducible refine EW.of ?_); cbv)))
    (refine ⟨_, _, rfl, hgx, ?_⟩; cbv; ((try cbv) <;> (repeat ((with_reducible refine EW.of ?_); cbv))))
    obtain ⟨S, hS⟩ : ∃ S : LI (Nat × Option (Nat × List Int)), S = ⟨fun x => [(58, .int .i64 x.1), (57, .int .i64 (A.len (G.slot.l ss))), (56, .sl 3 (G.slot.l ss)), (11, rowI 0 x.2), (10, .bool false), (5, .imm [.sl 3 (G.kind.l ks), .int .i64 root]), (1, .int .i64 m), (2, .sl 1 (E.int.l counts)), (3, .sl 1 (E.int.l picks)), (4, .sl 1 (E.int.l kids))], fun x => stI E [] x.2, fun x => x.1 ≤ ss.length ∧ okI x.2 ∧ (outI x.2).length ≤ 200 ∧ Made (ss.take x.1) (outI x.2), fun x => ss.length - x.1⟩ := ⟨_, rfl⟩
    refine TW.loopM A (T0_ok hP) S _ rfl (0, none) ?_ ?_ ?_
    · rw [hS]; exact ⟨Nat.zero_le _, trivial, Nat.zero_le _, rfl⟩
    · rw [hS]
      cbv
      (repeat (first | exact trivial | refine And.intro (Emb.Pur _ _) ?_ | refine And.intro (inc_eq A (by omega)) ?_ | refine And.intro rfl ?_ | refine And.intro pg ?_ | refine And.intro hnn.symm ?_ | refine And.intro ps ?_))
    rintro ⟨j, o⟩ hj l1 L1 e1 e2
    rw [hS] at hj e1 e2
    dsimp only at hj e1 e2
    obtain ⟨hj, hok, h200, hmade⟩ := hj
    subst e1
    obtain ⟨l0, hl0⟩ : ∃ l, l = outI o := ⟨_, rfl⟩
    rw [← hl0] at h200 hmade
    obtain ⟨oo, hoo⟩ : ∃ x, x = o := ⟨_, rfl⟩
    cases o with
    | none =>
      dsimp only [stI, rowI, outI, okI] at e2 hok hl0 ⊢
      have hsub : A.op .sub .i64 200 0 = 200 - (l0.length : Int) := by rw [sub_i64 rfl rfl (by omega) (by omega), hl0]; rfl
      subst e2
      cbv
      ((try cbv) <;> (repeat ((with_reducible refine EW.of ?_); cbv)))
      refine bsplit (fun h => ?_) (fun h => ?_)
      · have h : j < ss.length := lt_nt h rfl hsk
        obtain ⟨s, hs⟩ : ∃ s, ss[j]? = some s := ⟨_, List.getElem?_eq_getElem h⟩
        have hgs := G.gets E hs
        have hsf := hcf.2 s (List.mem_of_getElem? hs)
        have htk : ss.take (j + 1) = ss.take j ++ [s] := by rw [List.take_add_one, hs]; rfl
        obtain ⟨sk, sl, sm⟩ := s
        have f1 : 1 ≤ sk.length := hsf.some
        have f0 : sk.length ≤ 32 := hsf.few
        have f2 : 0 ≤ sl := hsf.low
        have f3 : sl ≤ sm := hsf.mid
        have f4 : sm ≤ 1000 := hsf.high
        have ps : Tw.Pur [AV.sl 1 (E.int.l sk), .int .i64 sl, .int .i64 sm] := Pur.mk (by (repeat (first | exact rfl | exact Emb.purL _ _ | assumption | apply pur_cons | apply pur_sl | apply pur_slt | apply pur_agg | apply pur_tup)))
        have hls : A.len (E.int.l sk) = (sk.length : Int) := by rw [A.ok_len, E.int.len]
        dsimp only at hgs
        ((try cbv) <;> (repeat ((with_reducible refine EW.of ?_); cbv)))
        (refine ⟨_, _, rfl, hgs, ?_⟩; cbv; ((try cbv) <;> (repeat ((with_reducible refine EW.of ?_); cbv))))
        refine bsplit (fun hc => ?_) (fun hc => ?_)
        · have hc : j < counts.length := lt_nt hc rfl hlc
          obtain ⟨c, hcv⟩ : ∃ c, counts[j]? = some c := ⟨_, List.getElem?_eq_getElem hc⟩
          have hgc := E.geti hcv
          obtain ⟨nn, hnn⟩ : ∃ n, n = A.mn (A.mx c sl) sm := ⟨_, rfl⟩
          have hn2 : sl ≤ nn ∧ nn ≤ sm := hnn ▸ mn_mx A f3
          ((try cbv) <;> (repeat ((with_reducible refine EW.of ?_); cbv)))
          (refine TW.draw (A := A) (T0_ok hP) (hP ▸ follows_mixed) (by kernel_rfl) rfl ?_; cbv)
          refine ⟨j, _, rfl, hgc, ?_⟩
          cbv
          refine EW.vs [(14, .int .i64 nn), (13, .imm [.sl 1 (E.int.l sk), .int .i64 sl, .int .i64 sm]), (12, .int .i64 j), (58, .int .i64 j), (57, .int .i64 (A.len (G.slot.l ss))), (56, .sl 3 (G.slot.l ss)), (11, .nils), (10, .bool false), (5, .imm [.sl 3 (G.kind.l ks), .int .i64 root]), (1, .int .i64 m), (2, .sl 1 (E.int.l counts)), (3, .sl 1 (E.int.l picks)), (4, .sl 1 (E.int.l kids))] [] 145 rfl ?_
          cbv
          (repeat (first | exact trivial | refine And.intro (Emb.Pur _ _) ?_ | refine And.intro (inc_eq A (by omega)) ?_ | refine And.intro rfl ?_ | refine And.intro pg ?_ | refine And.intro hnn.symm ?_ | refine And.intro ps ?_))
          ((try cbv) <;> (repeat ((with_reducible refine EW.of ?_); cbv)))
          refine bsplit (fun hgt => ?_) (fun hgt => ?_)
          · skip
            ((try cbv) <;> (repeat ((with_reducible refine EW.of ?_); cbv)))
            (refine ⟨Ent.of (hP ▸ Try.func11) rfl, ?_⟩; refine TC.pureE h11 ?_; cbv; (repeat (first | exact trivial | refine And.intro (Emb.Pur _ _) ?_ | refine And.intro rfl ?_ | refine And.intro (Pur.mk rfl) ?_ | refine And.intro (Pur.mk (by assumption)) ?_)); ((try cbv) <;> (repeat ((with_reducible refine EW.of ?_); cbv))))
          have hgt : nn ≤ 200 - (l0.length : Int) := lt_f hgt hsub rfl
          obtain ⟨N, hN⟩ : ∃ N : Nat, nn = N := ⟨nn.toNat, by omega⟩
          subst hN
          have hgtN : N + l0.length ≤ 200 := by omega
          ((try cbv) <;> (repeat ((with_reducible refine EW.of ?_); cbv)))
          obtain ⟨S2, hS2⟩ : ∃ S : LI (Nat × Option (Nat × List Int)), S = ⟨fun x => [(86, .int .i64 x.1), (85, .int .i64 (N : Int)), (11, rowI 0 x.2), (13, .imm [.sl 1 (E.int.l sk), .int .i64 sl, .int .i64 sm]), (58, .int .i64 j), (57, .int .i64 (A.len (G.slot.l ss))), (56, .sl 3 (G.slot.l ss)), (10, .bool false), (5, .imm [.sl 3 (G.kind.l ks), .int .i64 root]), (1, .int .i64 m), (2, .sl 1 (E.int.l counts)), (3, .sl 1 (E.int.l picks)), (4, .sl 1 (E.int.l kids))], fun x => stI E [] x.2, fun x => x.1 ≤ N ∧ okI x.2 ∧ ∃ p, outI x.2 = l0 ++ p ∧ p.length = x.1 ∧ ∀ y ∈ p, mayB y sk = true, fun x => N - x.1⟩ := ⟨_, rfl⟩
          refine TW.loopM A (T0_ok hP) S2 _ rfl (0, oo) ?_ ?_ ?_
          · rw [hS2]; exact ⟨Nat.zero_le _, by rw [hoo]; exact hok, [], by show outI oo = l0 ++ []; rw [hoo, List.append_nil, hl0]; rfl, rfl, fun y hy => by cases hy⟩
          · rw [hS2, hoo]
            cbv
            (repeat (first | exact trivial | refine And.intro (Emb.Pur _ _) ?_ | refine And.intro (inc_eq A (by omega)) ?_ | refine And.intro rfl ?_ | refine And.intro pg ?_ | refine And.intro hnn.symm ?_ | refine And.intro ps ?_))
          rintro ⟨i, o2⟩ hi l2 L2 e1 e2
          rw [hS2] at hi e1 e2
          dsimp only at hi e1 e2
          obtain ⟨hi, hok2, p, hp1, hp2, hp3⟩ := hi
          subst e1
          obtain ⟨o3, ho3⟩ : ∃ o, o = o2 := ⟨_, rfl⟩
          obtain ⟨lo, hlo⟩ : ∃ l, l = outI o2 := ⟨_, rfl⟩
          rw [← hlo] at hp1
          have hlo3 : outI o3 = lo := by rw [ho3, hlo]
          cases o2 with
          | none =>
            dsimp only [stI, rowI, outI, okI] at e2 hok2 hlo ⊢
            subst e2
            cbv
            ((try cbv) <;> (repeat ((with_reducible refine EW.of ?_); cbv)))
            refine bsplit (fun h5 => ?_) (fun h5 => ?_)
            · have h5 : i < N := lt_nt h5 rfl rfl
              ((try cbv) <;> (repeat ((with_reducible refine EW.of ?_); cbv)))
              refine bsplit (fun h6 => ?_) (fun h6 => ?_)
              · have h6 : 0 < picks.length := lt_nt (i := 0) h6 rfl hlp
                obtain ⟨pk, hpk⟩ : ∃ x, picks[lo.length % picks.length]? = some x := ⟨_, List.getElem?_eq_getElem (Nat.mod_lt _ h6)⟩
                have hgp := E.geti hpk
                obtain ⟨kk, hkk, hkv⟩ := rem_rem A (x := pk) f1 (by omega)
                have hkv : A.op .rem .i64 (A.op .add .i64 (A.op .rem .i64 pk (A.len (E.int.l sk))) (A.len (E.int.l sk))) (A.len (E.int.l sk)) = (kk : Int) := by rw [hls]; exact hkv
                ((try cbv) <;> (repeat ((with_reducible refine EW.of ?_); cbv)))
                have hp0 : ¬ A.len (E.int.l picks) = 0 := by rw [hlp]; exact fun h => by have := Int.ofNat_inj.1 (show ((picks.length : Nat) : Int) = ((0 : Nat) : Int) from h); omega
                have hs0 : ¬ A.len (E.int.l sk) = 0 := by rw [hls]; exact fun h => by have := Int.ofNat_inj.1 (show ((sk.length : Nat) : Int) = ((0 : Nat) : Int) from h); omega
                (refine TW.draw (A := A) (T0_ok hP) (hP ▸ follows_mixed) (by kernel_rfl) rfl ?_; cbv)
                refine ⟨hp0, ?_⟩
                refine ⟨lo.length % picks.length, _, by first | (show A.op .rem .i64 0 (A.len (E.int.l picks)) = _; rw [hlp, hlo]; exact rem_len A (a := 0)) | (rw [show lo.length = q2 by rw [hok2, hlo]]; show A.op .rem .i64 (A.nat q2) (A.len (E.int.l picks)) = _; rw [A.ok_nat, hlp]; exact rem_len A), hgp, ?_⟩
                cbv
                refine ⟨hs0, ?_⟩
                cbv
                ((try cbv) <;> (repeat ((with_reducible refine EW.of ?_); cbv)))
                refine ⟨hs0, ?_⟩
                obtain ⟨y, hy⟩ : ∃ y, sk[kk]? = some y := ⟨_, List.getElem?_eq_getElem hkk⟩
                have hgy := E.geti hy
                have hmy := mayB_get hy
                obtain ⟨l9, hl9⟩ : ∃ d, d = lo ++ [y] := ⟨_, rfl⟩
                obtain ⟨q9, hq9⟩ : ∃ q, q = l9.length := ⟨_, rfl⟩
                have hlen9 : l9.length = l0.length + i + 1 := by rw [hl9, hp1]; simp [hp2]; omega
                ((try cbv) <;> (repeat ((with_reducible refine EW.of ?_); cbv)))
                refine ⟨kk, _, hkv, hgy, ?_⟩
                cbv
                ((try cbv) <;> (repeat ((with_reducible refine EW.of ?_); cbv)))
                first
                  | refine ⟨⟨rfl⟩, q9, E.int.l l9, by rw [hq9, hl9, hlo]; first | done | rfl, by rw [hl9, hlo, List.nil_append, E.int.cons, E.int.nil, E.iv]; first | done | rfl, Nat.zero_le _, by omega, by omega, ?_⟩
                  | refine ⟨⟨rfl⟩, q9, E.int.l l9, by rw [hq9, hl9, hlo, hok2]; simp, by rw [hl9, hlo, E.int.app, E.int.cons, E.int.nil, E.iv, List.take_of_length_le (by rw [E.int.len, hok2]; exact Nat.le_refl _)], by rw [E.int.len, hok2]; exact Nat.le_refl _, by omega, by omega, ?_⟩
                cbv
                ((try cbv) <;> (repeat ((with_reducible refine EW.of ?_); cbv)))
                refine LM.of (i + 1, some (q9, l9)) rfl ?_ ?_ ?_
                · rw [hS2]; exact ⟨by show i + 1 ≤ N; omega, hq9, p ++ [y], by show l9 = _; rw [hl9, hp1, List.append_assoc], by simp [hp2], fun z hz => (List.mem_append.1 hz).elim (hp3 z) (fun hz => by simp at hz; subst hz; exact hmy)⟩
                · rw [hS2]; show N - (i + 1) < N - i; omega
                · rw [hS2]
                  cbv
                  (repeat (first | exact trivial | refine And.intro (Emb.Pur _ _) ?_ | refine And.intro (inc_eq A (by omega)) ?_ | refine And.intro rfl ?_ | refine And.intro pg ?_ | refine And.intro hnn.symm ?_ | refine And.intro ps ?_))
              · obtain ⟨kk, hkk, hkv⟩ : ∃ kk : Nat, kk < sk.length ∧ (0 : Int) = (kk : Int) := ⟨0, f1, rfl⟩
                obtain ⟨y, hy⟩ : ∃ y, sk[kk]? = some y := ⟨_, List.getElem?_eq_getElem hkk⟩
                have hgy := E.geti hy
                have hmy := mayB_get hy
                obtain ⟨l9, hl9⟩ : ∃ d, d = lo ++ [y] := ⟨_, rfl⟩
                obtain ⟨q9, hq9⟩ : ∃ q, q = l9.length := ⟨_, rfl⟩
                have hlen9 : l9.length = l0.length + i + 1 := by rw [hl9, hp1]; simp [hp2]; omega
                ((try cbv) <;> (repeat ((with_reducible refine EW.of ?_); cbv)))
                refine ⟨kk, _, hkv, hgy, ?_⟩
                cbv
                ((try cbv) <;> (repeat ((with_reducible refine EW.of ?_); cbv)))
                first
                  | refine ⟨⟨rfl⟩, q9, E.int.l l9, by rw [hq9, hl9, hlo]; first | done | rfl, by rw [hl9, hlo, List.nil_append, E.int.cons, E.int.nil, E.iv]; first | done | rfl, Nat.zero_le _, by omega, by omega, ?_⟩
                  | refine ⟨⟨rfl⟩, q9, E.int.l l9, by rw [hq9, hl9, hlo, hok2]; simp, by rw [hl9, hlo, E.int.app, E.int.cons, E.int.nil, E.iv, List.take_of_length_le (by rw [E.int.len, hok2]; exact Nat.le_refl _)], by rw [E.int.len, hok2]; exact Nat.le_refl _, by omega, by omega, ?_⟩
                cbv
                ((try cbv) <;> (repeat ((with_reducible refine EW.of ?_); cbv)))
                refine LM.of (i + 1, some (q9, l9)) rfl ?_ ?_ ?_
                · rw [hS2]; exact ⟨by show i + 1 ≤ N; omega, hq9, p ++ [y], by show l9 = _; rw [hl9, hp1, List.append_assoc], by simp [hp2], fun z hz => (List.mem_append.1 hz).elim (hp3 z) (fun hz => by simp at hz; subst hz; exact hmy)⟩
                · rw [hS2]; show N - (i + 1) < N - i; omega
                · rw [hS2]
                  cbv
                  (repeat (first | exact trivial | refine And.intro (Emb.Pur _ _) ?_ | refine And.intro (inc_eq A (by omega)) ?_ | refine And.intro rfl ?_ | refine And.intro pg ?_ | refine And.intro hnn.symm ?_ | refine And.intro ps ?_))
            · have h5 : N ≤ i := lt_nf h5 rfl rfl
              ((try cbv) <;> (repeat ((with_reducible refine EW.of ?_); cbv)))
              refine LM.of (j + 1, o3) rfl ?_ ?_ ?_
              · rw [hS]; exact ⟨by show j + 1 ≤ _; omega, by rw [ho3]; exact hok2, by show (outI o3).length ≤ 200; rw [hlo3, hp1]; simp [hp2]; omega, by
                  show Made (ss.take (j + 1)) (outI o3)
                  rw [hlo3, htk, hp1]
                  have hpN : p.length = N := by omega
                  exact Made.snoc (by rw [hpN]; exact hn2.1) (by rw [hpN]; exact hn2.2) hp3 _ _ hmade⟩
              · rw [hS]; show ss.length - (j + 1) < ss.length - j; omega
              · rw [hS, ho3]
                cbv
                (repeat (first | exact trivial | refine And.intro (Emb.Pur _ _) ?_ | refine And.intro (inc_eq A (by omega)) ?_ | refine And.intro rfl ?_ | refine And.intro pg ?_ | refine And.intro hnn.symm ?_ | refine And.intro ps ?_))
          | some y2 =>
            obtain ⟨q2, l2⟩ := y2
            dsimp only [stI, rowI, outI, okI] at e2 hok2 hlo ⊢
            have hq200 : q2 ≤ 400 := by rw [hok2, ← hlo, hp1]; simp [hp2]; omega
            subst e2
            cbv
            ((try cbv) <;> (repeat ((with_reducible refine EW.of ?_); cbv)))
            refine bsplit (fun h5 => ?_) (fun h5 => ?_)
            · have h5 : i < N := lt_nt h5 rfl rfl
              ((try cbv) <;> (repeat ((with_reducible refine EW.of ?_); cbv)))
              refine bsplit (fun h6 => ?_) (fun h6 => ?_)
              · have h6 : 0 < picks.length := lt_nt (i := 0) h6 rfl hlp
                obtain ⟨pk, hpk⟩ : ∃ x, picks[lo.length % picks.length]? = some x := ⟨_, List.getElem?_eq_getElem (Nat.mod_lt _ h6)⟩
                have hgp := E.geti hpk
                obtain ⟨kk, hkk, hkv⟩ := rem_rem A (x := pk) f1 (by omega)
                have hkv : A.op .rem .i64 (A.op .add .i64 (A.op .rem .i64 pk (A.len (E.int.l sk))) (A.len (E.int.l sk))) (A.len (E.int.l sk)) = (kk : Int) := by rw [hls]; exact hkv
                ((try cbv) <;> (repeat ((with_reducible refine EW.of ?_); cbv)))
                have hp0 : ¬ A.len (E.int.l picks) = 0 := by rw [hlp]; exact fun h => by have := Int.ofNat_inj.1 (show ((picks.length : Nat) : Int) = ((0 : Nat) : Int) from h); omega
                have hs0 : ¬ A.len (E.int.l sk) = 0 := by rw [hls]; exact fun h => by have := Int.ofNat_inj.1 (show ((sk.length : Nat) : Int) = ((0 : Nat) : Int) from h); omega
                (refine TW.draw (A := A) (T0_ok hP) (hP ▸ follows_mixed) (by kernel_rfl) rfl ?_; cbv)
                refine ⟨hp0, ?_⟩
                refine ⟨lo.length % picks.length, _, by first | (show A.op .rem .i64 0 (A.len (E.int.l picks)) = _; rw [hlp, hlo]; exact rem_len A (a := 0)) | (rw [show lo.length = q2 by rw [hok2, hlo]]; show A.op .rem .i64 (A.nat q2) (A.len (E.int.l picks)) = _; rw [A.ok_nat, hlp]; exact rem_len A), hgp, ?_⟩
                cbv
                refine ⟨hs0, ?_⟩
                cbv
                ((try cbv) <;> (repeat ((with_reducible refine EW.of ?_); cbv)))
                refine ⟨hs0, ?_⟩
                obtain ⟨y, hy⟩ : ∃ y, sk[kk]? = some y := ⟨_, List.getElem?_eq_getElem hkk⟩
                have hgy := E.geti hy
                have hmy := mayB_get hy
                obtain ⟨l9, hl9⟩ : ∃ d, d = lo ++ [y] := ⟨_, rfl⟩
                obtain ⟨q9, hq9⟩ : ∃ q, q = l9.length := ⟨_, rfl⟩
                have hlen9 : l9.length = l0.length + i + 1 := by rw [hl9, hp1]; simp [hp2]; omega
                ((try cbv) <;> (repeat ((with_reducible refine EW.of ?_); cbv)))
                refine ⟨kk, _, hkv, hgy, ?_⟩
                cbv
                ((try cbv) <;> (repeat ((with_reducible refine EW.of ?_); cbv)))
                first
                  | refine ⟨⟨rfl⟩, q9, E.int.l l9, by rw [hq9, hl9, hlo]; first | done | rfl, by rw [hl9, hlo, List.nil_append, E.int.cons, E.int.nil, E.iv]; first | done | rfl, Nat.zero_le _, by omega, by omega, ?_⟩
                  | refine ⟨⟨rfl⟩, q9, E.int.l l9, by rw [hq9, hl9, hlo, hok2]; simp, by rw [hl9, hlo, E.int.app, E.int.cons, E.int.nil, E.iv, List.take_of_length_le (by rw [E.int.len, hok2]; exact Nat.le_refl _)], by rw [E.int.len, hok2]; exact Nat.le_refl _, by omega, by omega, ?_⟩
                cbv
                ((try cbv) <;> (repeat ((with_reducible refine EW.of ?_); cbv)))
                refine LM.of (i + 1, some (q9, l9)) rfl ?_ ?_ ?_
                · rw [hS2]; exact ⟨by show i + 1 ≤ N; omega, hq9, p ++ [y], by show l9 = _; rw [hl9, hp1, List.append_assoc], by simp [hp2], fun z hz => (List.mem_append.1 hz).elim (hp3 z) (fun hz => by simp at hz; subst hz; exact hmy)⟩
                · rw [hS2]; show N - (i + 1) < N - i; omega
                · rw [hS2]
                  cbv
                  (repeat (first | exact trivial | refine And.intro (Emb.Pur _ _) ?_ | refine And.intro (inc_eq A (by omega)) ?_ | refine And.intro rfl ?_ | refine And.intro pg ?_ | refine And.intro hnn.symm ?_ | refine And.intro ps ?_))
              · obtain ⟨kk, hkk, hkv⟩ : ∃ kk : Nat, kk < sk.length ∧ (0 : Int) = (kk : Int) := ⟨0, f1, rfl⟩
                obtain ⟨y, hy⟩ : ∃ y, sk[kk]? = some y := ⟨_, List.getElem?_eq_getElem hkk⟩
                have hgy := E.geti hy
                have hmy := mayB_get hy
                obtain ⟨l9, hl9⟩ : ∃ d, d = lo ++ [y] := ⟨_, rfl⟩
                obtain ⟨q9, hq9⟩ : ∃ q, q = l9.length := ⟨_, rfl⟩
                have hlen9 : l9.length = l0.length + i + 1 := by rw [hl9, hp1]; simp [hp2]; omega
                ((try cbv) <;> (repeat ((with_reducible refine EW.of ?_); cbv)))
                refine ⟨kk, _, hkv, hgy, ?_⟩
                cbv
                ((try cbv) <;> (repeat ((with_reducible refine EW.of ?_); cbv)))
                first
                  | refine ⟨⟨rfl⟩, q9, E.int.l l9, by rw [hq9, hl9, hlo]; first | done | rfl, by rw [hl9, hlo, List.nil_append, E.int.cons, E.int.nil, E.iv]; first | done | rfl, Nat.zero_le _, by omega, by omega, ?_⟩
                  | refine ⟨⟨rfl⟩, q9, E.int.l l9, by rw [hq9, hl9, hlo, hok2]; simp, by rw [hl9, hlo, E.int.app, E.int.cons, E.int.nil, E.iv, List.take_of_length_le (by rw [E.int.len, hok2]; exact Nat.le_refl _)], by rw [E.int.len, hok2]; exact Nat.le_refl _, by omega, by omega, ?_⟩
                cbv
                ((try cbv) <;> (repeat ((with_reducible refine EW.of ?_); cbv)))
                refine LM.of (i + 1, some (q9, l9)) rfl ?_ ?_ ?_
                · rw [hS2]; exact ⟨by show i + 1 ≤ N; omega, hq9, p ++ [y], by show l9 = _; rw [hl9, hp1, List.append_assoc], by simp [hp2], fun z hz => (List.mem_append.1 hz).elim (hp3 z) (fun hz => by simp at hz; subst hz; exact hmy)⟩
                · rw [hS2]; show N - (i + 1) < N - i; omega
                · rw [hS2]
                  cbv
                  (repeat (first | exact trivial | refine And.intro (Emb.Pur _ _) ?_ | refine And.intro (inc_eq A (by omega)) ?_ | refine And.intro rfl ?_ | refine And.intro pg ?_ | refine And.intro hnn.symm ?_ | refine And.intro ps ?_))
            · have h5 : N ≤ i := lt_nf h5 rfl rfl
              ((try cbv) <;> (repeat ((with_reducible refine EW.of ?_); cbv)))
              refine LM.of (j + 1, o3) rfl ?_ ?_ ?_
              · rw [hS]; exact ⟨by show j + 1 ≤ _; omega, by rw [ho3]; exact hok2, by show (outI o3).length ≤ 200; rw [hlo3, hp1]; simp [hp2]; omega, by
                  show Made (ss.take (j + 1)) (outI o3)
                  rw [hlo3, htk, hp1]
                  have hpN : p.length = N := by omega
                  exact Made.snoc (by rw [hpN]; exact hn2.1) (by rw [hpN]; exact hn2.2) hp3 _ _ hmade⟩
              · rw [hS]; show ss.length - (j + 1) < ss.length - j; omega
              · rw [hS, ho3]
                cbv
                (repeat (first | exact trivial | refine And.intro (Emb.Pur _ _) ?_ | refine And.intro (inc_eq A (by omega)) ?_ | refine And.intro rfl ?_ | refine And.intro pg ?_ | refine And.intro hnn.symm ?_ | refine And.intro ps ?_))
        · obtain ⟨nn, hnn⟩ : ∃ n, n = sl := ⟨_, rfl⟩
          have hn2 : sl ≤ nn ∧ nn ≤ sm := by omega
          refine EW.vs [(14, .int .i64 nn), (13, .imm [.sl 1 (E.int.l sk), .int .i64 sl, .int .i64 sm]), (12, .int .i64 j), (58, .int .i64 j), (57, .int .i64 (A.len (G.slot.l ss))), (56, .sl 3 (G.slot.l ss)), (11, .nils), (10, .bool false), (5, .imm [.sl 3 (G.kind.l ks), .int .i64 root]), (1, .int .i64 m), (2, .sl 1 (E.int.l counts)), (3, .sl 1 (E.int.l picks)), (4, .sl 1 (E.int.l kids))] [] 145 rfl ?_
          cbv
          (repeat (first | exact trivial | refine And.intro (Emb.Pur _ _) ?_ | refine And.intro (inc_eq A (by omega)) ?_ | refine And.intro rfl ?_ | refine And.intro pg ?_ | refine And.intro hnn.symm ?_ | refine And.intro ps ?_))
          ((try cbv) <;> (repeat ((with_reducible refine EW.of ?_); cbv)))
          refine bsplit (fun hgt => ?_) (fun hgt => ?_)
          · skip
            ((try cbv) <;> (repeat ((with_reducible refine EW.of ?_); cbv)))
            (refine ⟨Ent.of (hP ▸ Try.func11) rfl, ?_⟩; refine TC.pureE h11 ?_; cbv; (repeat (first | exact trivial | refine And.intro (Emb.Pur _ _) ?_ | refine And.intro rfl ?_ | refine And.intro (Pur.mk rfl) ?_ | refine And.intro (Pur.mk (by assumption)) ?_)); ((try cbv) <;> (repeat ((with_reducible refine EW.of ?_); cbv))))
          have hgt : nn ≤ 200 - (l0.length : Int) := lt_f hgt hsub rfl
          obtain ⟨N, hN⟩ : ∃ N : Nat, nn = N := ⟨nn.toNat, by omega⟩
          subst hN
          have hgtN : N + l0.length ≤ 200 := by omega
          ((try cbv) <;> (repeat ((with_reducible refine EW.of ?_); cbv)))
          obtain ⟨S2, hS2⟩ : ∃ S : LI (Nat × Option (Nat × List Int)), S = ⟨fun x => [(86, .int .i64 x.1), (85, .int .i64 (N : Int)), (11, rowI 0 x.2), (13, .imm [.sl 1 (E.int.l sk), .int .i64 sl, .int .i64 sm]), (58, .int .i64 j), (57, .int .i64 (A.len (G.slot.l ss))), (56, .sl 3 (G.slot.l ss)), (10, .bool false), (5, .imm [.sl 3 (G.kind.l ks), .int .i64 root]), (1, .int .i64 m), (2, .sl 1 (E.int.l counts)), (3, .sl 1 (E.int.l picks)), (4, .sl 1 (E.int.l kids))], fun x => stI E [] x.2, fun x => x.1 ≤ N ∧ okI x.2 ∧ ∃ p, outI x.2 = l0 ++ p ∧ p.length = x.1 ∧ ∀ y ∈ p, mayB y sk = true, fun x => N - x.1⟩ := ⟨_, rfl⟩
          refine TW.loopM A (T0_ok hP) S2 _ rfl (0, oo) ?_ ?_ ?_
          · rw [hS2]; exact ⟨Nat.zero_le _, by rw [hoo]; exact hok, [], by show outI oo = l0 ++ []; rw [hoo, List.append_nil, hl0]; rfl, rfl, fun y hy => by cases hy⟩
          · rw [hS2, hoo]
            cbv
            (repeat (first | exact trivial | refine And.intro (Emb.Pur _ _) ?_ | refine And.intro (inc_eq A (by omega)) ?_ | refine And.intro rfl ?_ | refine And.intro pg ?_ | refine And.intro hnn.symm ?_ | refine And.intro ps ?_))
          rintro ⟨i, o2⟩ hi l2 L2 e1 e2
          rw [hS2] at hi e1 e2
          dsimp only at hi e1 e2
          obtain ⟨hi, hok2, p, hp1, hp2, hp3⟩ := hi
          subst e1
          obtain ⟨o3, ho3⟩ : ∃ o, o = o2 := ⟨_, rfl⟩
          obtain ⟨lo, hlo⟩ : ∃ l, l = outI o2 := ⟨_, rfl⟩
          rw [← hlo] at hp1
          have hlo3 : outI o3 = lo := by rw [ho3, hlo]
          cases o2 with
          | none =>
            dsimp only [stI, rowI, outI, okI] at e2 hok2 hlo ⊢
            subst e2
            cbv
            ((try cbv) <;> (repeat ((with_reducible refine EW.of ?_); cbv)))
            refine bsplit (fun h5 => ?_) (fun h5 => ?_)
            · have h5 : i < N := lt_nt h5 rfl rfl
              ((try cbv) <;> (repeat ((with_reducible refine EW.of ?_); cbv)))
              refine bsplit (fun h6 => ?_) (fun h6 => ?_)
              · have h6 : 0 < picks.length := lt_nt (i := 0) h6 rfl hlp
                obtain ⟨pk, hpk⟩ : ∃ x, picks[lo.length % picks.length]? = some x := ⟨_, List.getElem?_eq_getElem (Nat.mod_lt _ h6)⟩
                have hgp := E.geti hpk
                obtain ⟨kk, hkk, hkv⟩ := rem_rem A (x := pk) f1 (by omega)
                have hkv : A.op .rem .i64 (A.op .add .i64 (A.op .rem .i64 pk (A.len (E.int.l sk))) (A.len (E.int.l sk))) (A.len (E.int.l sk)) = (kk : Int) := by rw [hls]; exact hkv
                ((try cbv) <;> (repeat ((with_reducible refine EW.of ?_); cbv)))
                have hp0 : ¬ A.len (E.int.l picks) = 0 := by rw [hlp]; exact fun h => by have := Int.ofNat_inj.1 (show ((picks.length : Nat) : Int) = ((0 : Nat) : Int) from h); omega
                have hs0 : ¬ A.len (E.int.l sk) = 0 := by rw [hls]; exact fun h => by have := Int.ofNat_inj.1 (show ((sk.length : Nat) : Int) = ((0 : Nat) : Int) from h); omega
                (refine TW.draw (A := A) (T0_ok hP) (hP ▸ follows_mixed) (by kernel_rfl) rfl ?_; cbv)
                refine ⟨hp0, ?_⟩
                refine ⟨lo.length % picks.length, _, by first | (show A.op .rem .i64 0 (A.len (E.int.l picks)) = _; rw [hlp, hlo]; exact rem_len A (a := 0)) | (rw [show lo.length = q2 by rw [hok2, hlo]]; show A.op .rem .i64 (A.nat q2) (A.len (E.int.l picks)) = _; rw [A.ok_nat, hlp]; exact rem_len A), hgp, ?_⟩
                cbv
                refine ⟨hs0, ?_⟩
                cbv
                ((try cbv) <;> (repeat ((with_reducible refine EW.of ?_); cbv)))
                refine ⟨hs0, ?_⟩
                obtain ⟨y, hy⟩ : ∃ y, sk[kk]? = some y := ⟨_, List.getElem?_eq_getElem hkk⟩
                have hgy := E.geti hy
                have hmy := mayB_get hy
                obtain ⟨l9, hl9⟩ : ∃ d, d = lo ++ [y] := ⟨_, rfl⟩
                obtain ⟨q9, hq9⟩ : ∃ q, q = l9.length := ⟨_, rfl⟩
                have hlen9 : l9.length = l0.length + i + 1 := by rw [hl9, hp1]; simp [hp2]; omega
                ((try cbv) <;> (repeat ((with_reducible refine EW.of ?_); cbv)))
                refine ⟨kk, _, hkv, hgy, ?_⟩
                cbv
                ((try cbv) <;> (repeat ((with_reducible refine EW.of ?_); cbv)))
                first
                  | refine ⟨⟨rfl⟩, q9, E.int.l l9, by rw [hq9, hl9, hlo]; first | done | rfl, by rw [hl9, hlo, List.nil_append, E.int.cons, E.int.nil, E.iv]; first | done | rfl, Nat.zero_le _, by omega, by omega, ?_⟩
                  | refine ⟨⟨rfl⟩, q9, E.int.l l9, by rw [hq9, hl9, hlo, hok2]; simp, by rw [hl9, hlo, E.int.app, E.int.cons, E.int.nil, E.iv, List.take_of_length_le (by rw [E.int.len, hok2]; exact Nat.le_refl _)], by rw [E.int.len, hok2]; exact Nat.le_refl _, by omega, by omega, ?_⟩
                cbv
                ((try cbv) <;> (repeat ((with_reducible refine EW.of ?_); cbv)))
                refine LM.of (i + 1, some (q9, l9)) rfl ?_ ?_ ?_
                · rw [hS2]; exact ⟨by show i + 1 ≤ N; omega, hq9, p ++ [y], by show l9 = _; rw [hl9, hp1, List.append_assoc], by simp [hp2], fun z hz => (List.mem_append.1 hz).elim (hp3 z) (fun hz => by simp at hz; subst hz; exact hmy)⟩
                · rw [hS2]; show N - (i + 1) < N - i; omega
                · rw [hS2]
                  cbv
                  (repeat (first | exact trivial | refine And.intro (Emb.Pur _ _) ?_ | refine And.intro (inc_eq A (by omega)) ?_ | refine And.intro rfl ?_ | refine And.intro pg ?_ | refine And.intro hnn.symm ?_ | refine And.intro ps ?_))
              · obtain ⟨kk, hkk, hkv⟩ : ∃ kk : Nat, kk < sk.length ∧ (0 : Int) = (kk : Int) := ⟨0, f1, rfl⟩
                obtain ⟨y, hy⟩ : ∃ y, sk[kk]? = some y := ⟨_, List.getElem?_eq_getElem hkk⟩
                have hgy := E.geti hy
                have hmy := mayB_get hy
                obtain ⟨l9, hl9⟩ : ∃ d, d = lo ++ [y] := ⟨_, rfl⟩
                obtain ⟨q9, hq9⟩ : ∃ q, q = l9.length := ⟨_, rfl⟩
                have hlen9 : l9.length = l0.length + i + 1 := by rw [hl9, hp1]; simp [hp2]; omega
                ((try cbv) <;> (repeat ((with_reducible refine EW.of ?_); cbv)))
                refine ⟨kk, _, hkv, hgy, ?_⟩
                cbv
                ((try cbv) <;> (repeat ((with_reducible refine EW.of ?_); cbv)))
                first
                  | refine ⟨⟨rfl⟩, q9, E.int.l l9, by rw [hq9, hl9, hlo]; first | done | rfl, by rw [hl9, hlo, List.nil_append, E.int.cons, E.int.nil, E.iv]; first | done | rfl, Nat.zero_le _, by omega, by omega, ?_⟩
                  | refine ⟨⟨rfl⟩, q9, E.int.l l9, by rw [hq9, hl9, hlo, hok2]; simp, by rw [hl9, hlo, E.int.app, E.int.cons, E.int.nil, E.iv, List.take_of_length_le (by rw [E.int.len, hok2]; exact Nat.le_refl _)], by rw [E.int.len, hok2]; exact Nat.le_refl _, by omega, by omega, ?_⟩
                cbv
                ((try cbv) <;> (repeat ((with_reducible refine EW.of ?_); cbv)))
                refine LM.of (i + 1, some (q9, l9)) rfl ?_ ?_ ?_
                · rw [hS2]; exact ⟨by show i + 1 ≤ N; omega, hq9, p ++ [y], by show l9 = _; rw [hl9, hp1, List.append_assoc], by simp [hp2], fun z hz => (List.mem_append.1 hz).elim (hp3 z) (fun hz => by simp at hz; subst hz; exact hmy)⟩
                · rw [hS2]; show N - (i + 1) < N - i; omega
                · rw [hS2]
                  cbv
                  (repeat (first | exact trivial | refine And.intro (Emb.Pur _ _) ?_ | refine And.intro (inc_eq A (by omega)) ?_ | refine And.intro rfl ?_ | refine And.intro pg ?_ | refine And.intro hnn.symm ?_ | refine And.intro ps ?_))
            · have h5 : N ≤ i := lt_nf h5 rfl rfl
              ((try cbv) <;> (repeat ((with_reducible refine EW.of ?_); cbv)))
              refine LM.of (j + 1, o3) rfl ?_ ?_ ?_
              · rw [hS]; exact ⟨by show j + 1 ≤ _; omega, by rw [ho3]; exact hok2, by show (outI o3).length ≤ 200; rw [hlo3, hp1]; simp [hp2]; omega, by
                  show Made (ss.take (j + 1)) (outI o3)
                  rw [hlo3, htk, hp1]
                  have hpN : p.length = N := by omega
                  exact Made.snoc (by rw [hpN]; exact hn2.1) (by rw [hpN]; exact hn2.2) hp3 _ _ hmade⟩
              · rw [hS]; show ss.length - (j + 1) < ss.length - j; omega
              · rw [hS, ho3]
                cbv
                (repeat (first | exact trivial | refine And.intro (Emb.Pur _ _) ?_ | refine And.intro (inc_eq A (by omega)) ?_ | refine And.intro rfl ?_ | refine And.intro pg ?_ | refine And.intro hnn.symm ?_ | refine And.intro ps ?_))
          | some y2 =>
            obtain ⟨q2, l2⟩ := y2
            dsimp only [stI, rowI, outI, okI] at e2 hok2 hlo ⊢
            have hq200 : q2 ≤ 400 := by rw [hok2, ← hlo, hp1]; simp [hp2]; omega
            subst e2
            cbv
            ((try cbv) <;> (repeat ((with_reducible refine EW.of ?_); cbv)))
            refine bsplit (fun h5 => ?_) (fun h5 => ?_)
            · have h5 : i < N := lt_nt h5 rfl rfl
              ((try cbv) <;> (repeat ((with_reducible refine EW.of ?_); cbv)))
              refine bsplit (fun h6 => ?_) (fun h6 => ?_)
              · have h6 : 0 < picks.length := lt_nt (i := 0) h6 rfl hlp
                obtain ⟨pk, hpk⟩ : ∃ x, picks[lo.length % picks.length]? = some x := ⟨_, List.getElem?_eq_getElem (Nat.mod_lt _ h6)⟩
                have hgp := E.geti hpk
                obtain ⟨kk, hkk, hkv⟩ := rem_rem A (x := pk) f1 (by omega)
                have hkv : A.op .rem .i64 (A.op .add .i64 (A.op .rem .i64 pk (A.len (E.int.l sk))) (A.len (E.int.l sk))) (A.len (E.int.l sk)) = (kk : Int) := by rw [hls]; exact hkv
                ((try cbv) <;> (repeat ((with_reducible refine EW.of ?_); cbv)))
                have hp0 : ¬ A.len (E.int.l picks) = 0 := by rw [hlp]; exact fun h => by have := Int.ofNat_inj.1 (show ((picks.length : Nat) : Int) = ((0 : Nat) : Int) from h); omega
                have hs0 : ¬ A.len (E.int.l sk) = 0 := by rw [hls]; exact fun h => by have := Int.ofNat_inj.1 (show ((sk.length : Nat) : Int) = ((0 : Nat) : Int) from h); omega
                (refine TW.draw (A := A) (T0_ok hP) (hP ▸ follows_mixed) (by kernel_rfl) rfl ?_; cbv)
                refine ⟨hp0, ?_⟩
                refine ⟨lo.length % picks.length, _, by first | (show A.op .rem .i64 0 (A.len (E.int.l picks)) = _; rw [hlp, hlo]; exact rem_len A (a := 0)) | (rw [show lo.length = q2 by rw [hok2, hlo]]; show A.op .rem .i64 (A.nat q2) (A.len (E.int.l picks)) = _; rw [A.ok_nat, hlp]; exact rem_len A), hgp, ?_⟩
                cbv
                refine ⟨hs0, ?_⟩
                cbv
                ((try cbv) <;> (repeat ((with_reducible refine EW.of ?_); cbv)))
                refine ⟨hs0, ?_⟩
                obtain ⟨y, hy⟩ : ∃ y, sk[kk]? = some y := ⟨_, List.getElem?_eq_getElem hkk⟩
                have hgy := E.geti hy
                have hmy := mayB_get hy
                obtain ⟨l9, hl9⟩ : ∃ d, d = lo ++ [y] := ⟨_, rfl⟩
                obtain ⟨q9, hq9⟩ : ∃ q, q = l9.length := ⟨_, rfl⟩
                have hlen9 : l9.length = l0.length + i + 1 := by rw [hl9, hp1]; simp [hp2]; omega
                ((try cbv) <;> (repeat ((with_reducible refine EW.of ?_); cbv)))
                refine ⟨kk, _, hkv, hgy, ?_⟩
                cbv
                ((try cbv) <;> (repeat ((with_reducible refine EW.of ?_); cbv)))
                first
                  | refine ⟨⟨rfl⟩, q9, E.int.l l9, by rw [hq9, hl9, hlo]; first | done | rfl, by rw [hl9, hlo, List.nil_append, E.int.cons, E.int.nil, E.iv]; first | done | rfl, Nat.zero_le _, by omega, by omega, ?_⟩
                  | refine ⟨⟨rfl⟩, q9, E.int.l l9, by rw [hq9, hl9, hlo, hok2]; simp, by rw [hl9, hlo, E.int.app, E.int.cons, E.int.nil, E.iv, List.take_of_length_le (by rw [E.int.len, hok2]; exact Nat.le_refl _)], by rw [E.int.len, hok2]; exact Nat.le_refl _, by omega, by omega, ?_⟩
                cbv
                ((try cbv) <;> (repeat ((with_reducible refine EW.of ?_); cbv)))
                refine LM.of (i + 1, some (q9, l9)) rfl ?_ ?_ ?_
                · rw [hS2]; exact ⟨by show i + 1 ≤ N; omega, hq9, p ++ [y], by show l9 = _; rw [hl9, hp1, List.append_assoc], by simp [hp2], fun z hz => (List.mem_append.1 hz).elim (hp3 z) (fun hz => by simp at hz; subst hz; exact hmy)⟩
                · rw [hS2]; show N - (i + 1) < N - i; omega
                · rw [hS2]
                  cbv
                  (repeat (first | exact trivial | refine And.intro (Emb.Pur _ _) ?_ | refine And.intro (inc_eq A (by omega)) ?_ | refine And.intro rfl ?_ | refine And.intro pg ?_ | refine And.intro hnn.symm ?_ | refine And.intro ps ?_))
              · obtain ⟨kk, hkk, hkv⟩ : ∃ kk : Nat, kk < sk.length ∧ (0 : Int) = (kk : Int) := ⟨0, f1, rfl⟩
                obtain ⟨y, hy⟩ : ∃ y, sk[kk]? = some y := ⟨_, List.getElem?_eq_getElem hkk⟩
                have hgy := E.geti hy
                have hmy := mayB_get hy
                obtain ⟨l9, hl9⟩ : ∃ d, d = lo ++ [y] := ⟨_, rfl⟩
                obtain ⟨q9, hq9⟩ : ∃ q, q = l9.length := ⟨_, rfl⟩
                have hlen9 : l9.length = l0.length + i + 1 := by rw [hl9, hp1]; simp [hp2]; omega
                ((try cbv) <;> (repeat ((with_reducible refine EW.of ?_); cbv)))
                refine ⟨kk, _, hkv, hgy, ?_⟩
                cbv
                ((try cbv) <;> (repeat ((with_reducible refine EW.of ?_); cbv)))
                first
                  | refine ⟨⟨rfl⟩, q9, E.int.l l9, by rw [hq9, hl9, hlo]; first | done | rfl, by rw [hl9, hlo, List.nil_append, E.int.cons, E.int.nil, E.iv]; first | done | rfl, Nat.zero_le _, by omega, by omega, ?_⟩
                  | refine ⟨⟨rfl⟩, q9, E.int.l l9, by rw [hq9, hl9, hlo, hok2]; simp, by rw [hl9, hlo, E.int.app, E.int.cons, E.int.nil, E.iv, List.take_of_length_le (by rw [E.int.len, hok2]; exact Nat.le_refl _)], by rw [E.int.len, hok2]; exact Nat.le_refl _, by omega, by omega, ?_⟩
                cbv
                ((try cbv) <;> (repeat ((with_reducible refine EW.of ?_); cbv)))
                refine LM.of (i + 1, some (q9, l9)) rfl ?_ ?_ ?_
                · rw [hS2]; exact ⟨by show i + 1 ≤ N; omega, hq9, p ++ [y], by show l9 = _; rw [hl9, hp1, List.append_assoc], by simp [hp2], fun z hz => (List.mem_append.1 hz).elim (hp3 z) (fun hz => by simp at hz; subst hz; exact hmy)⟩
                · rw [hS2]; show N - (i + 1) < N - i; omega
                · rw [hS2]
                  cbv
                  (repeat (first | exact trivial | refine And.intro (Emb.Pur _ _) ?_ | refine And.intro (inc_eq A (by omega)) ?_ | refine And.intro rfl ?_ | refine And.intro pg ?_ | refine And.intro hnn.symm ?_ | refine And.intro ps ?_))
            · have h5 : N ≤ i := lt_nf h5 rfl rfl
              ((try cbv) <;> (repeat ((with_reducible refine EW.of ?_); cbv)))
              refine LM.of (j + 1, o3) rfl ?_ ?_ ?_
              · rw [hS]; exact ⟨by show j + 1 ≤ _; omega, by rw [ho3]; exact hok2, by show (outI o3).length ≤ 200; rw [hlo3, hp1]; simp [hp2]; omega, by
                  show Made (ss.take (j + 1)) (outI o3)
                  rw [hlo3, htk, hp1]
                  have hpN : p.length = N := by omega
                  exact Made.snoc (by rw [hpN]; exact hn2.1) (by rw [hpN]; exact hn2.2) hp3 _ _ hmade⟩
              · rw [hS]; show ss.length - (j + 1) < ss.length - j; omega
              · rw [hS, ho3]
                cbv
                (repeat (first | exact trivial | refine And.intro (Emb.Pur _ _) ?_ | refine And.intro (inc_eq A (by omega)) ?_ | refine And.intro rfl ?_ | refine And.intro pg ?_ | refine And.intro hnn.symm ?_ | refine And.intro ps ?_))
      · have h : ss.length ≤ j := lt_nf h rfl hsk
        rw [List.take_of_length_le h] at hmade
        have k12 := h12 l0 (by omega)
        rw [hmf l0 h200 hmade] at k12
        have k12b := h12 kids hkl
        obtain ⟨r, hr⟩ : ∃ r, r = fit kids := ⟨_, rfl⟩
        rw [← hr] at k12b
        replace hfl := hfl kids
        rw [← hr] at hfl
        ((try cbv) <;> (repeat ((with_reducible refine EW.of ?_); cbv)))
        (refine ⟨Ent.of (hP ▸ Try.func12) rfl, ?_⟩; refine TC.pureF [0] k12 (by (repeat (first | exact rfl | exact Emb.purL _ _ | assumption | apply pur_cons | apply pur_sl | apply pur_slt | apply pur_agg | apply pur_tup))) ?_; cbv; (repeat (first | exact trivial | refine And.intro (Emb.Pur _ _) ?_ | refine And.intro rfl ?_ | refine And.intro (Pur.mk rfl) ?_ | refine And.intro (Pur.mk (by assumption)) ?_)); ((try cbv) <;> (repeat ((with_reducible refine EW.of ?_); cbv))))
        refine And.intro (by rw [hl0]; exact E.int.nil.symm) ?_
        ((try cbv) <;> (repeat ((with_reducible refine EW.of ?_); cbv)))
        (refine ⟨Ent.of (hP ▸ Try.func12) rfl, ?_⟩; refine TC.pureE k12b ?_; cbv; (repeat (first | exact trivial | refine And.intro (Emb.Pur _ _) ?_ | refine And.intro rfl ?_ | refine And.intro (Pur.mk rfl) ?_ | refine And.intro (Pur.mk (by assumption)) ?_)); ((try cbv) <;> (repeat ((with_reducible refine EW.of ?_); cbv))))
        cases r with
        | false =>
          ((try cbv) <;> (repeat ((with_reducible refine EW.of ?_); cbv)))
          ((try cbv) <;> (repeat ((with_reducible refine EW.of ?_); cbv)))
          (refine ⟨Ent.of (hP ▸ Try.func11) rfl, ?_⟩; refine TC.pureE h11 ?_; cbv; (repeat (first | exact trivial | refine And.intro (Emb.Pur _ _) ?_ | refine And.intro rfl ?_ | refine And.intro (Pur.mk rfl) ?_ | refine And.intro (Pur.mk (by assumption)) ?_)); ((try cbv) <;> (repeat ((with_reducible refine EW.of ?_); cbv))))
        | true =>
          have hfl := hfl rfl
          ((try cbv) <;> (repeat ((with_reducible refine EW.of ?_); cbv)))
          (refine ⟨Ent.of (hP ▸ Try.func15) rfl, ?_⟩; refine TC.pureE h15 ?_; cbv; (repeat (first | exact trivial | refine And.intro (Emb.Pur _ _) ?_ | refine And.intro rfl ?_ | refine And.intro (Pur.mk rfl) ?_ | refine And.intro (Pur.mk (by assumption)) ?_)); ((try cbv) <;> (repeat ((with_reducible refine EW.of ?_); cbv))))
          refine bno (ltF (show least ≤ A.len (E.int.l kids) by rw [hlk]; exact hfl.1)) ?_
          ((try cbv) <;> (repeat ((with_reducible refine EW.of ?_); cbv)))
          refine bno (ltF (show A.len (E.int.l kids) ≤ 200 by rw [hlk]; exact Int.ofNat_le.2 hfl.2)) ?_
          ((try cbv) <;> (repeat ((with_reducible refine EW.of ?_); cbv)))
          ((try cbv) <;> (repeat ((with_reducible refine EW.of ?_); cbv)))
          (refine ⟨Ent.of (hP ▸ Try.func11) rfl, ?_⟩; refine TC.pureE h11 ?_; cbv; (repeat (first | exact trivial | refine And.intro (Emb.Pur _ _) ?_ | refine And.intro rfl ?_ | refine And.intro (Pur.mk rfl) ?_ | refine And.intro (Pur.mk (by assumption)) ?_)); ((try cbv) <;> (repeat ((with_reducible refine EW.of ?_); cbv))))
    | some x =>
      obtain ⟨q, l⟩ := x
      dsimp only [stI, rowI, outI, okI] at e2 hok hl0 ⊢
      have hsub : A.op .sub .i64 200 (A.nat q) = 200 - (l0.length : Int) := by rw [A.ok_nat, show q = l0.length by rw [hl0]; exact hok, sub_i64 rfl rfl (by omega) (by omega)]
      subst e2
      cbv
      ((try cbv) <;> (repeat ((with_reducible refine EW.of ?_); cbv)))
      refine bsplit (fun h => ?_) (fun h => ?_)
      · have h : j < ss.length := lt_nt h rfl hsk
        obtain ⟨s, hs⟩ : ∃ s, ss[j]? = some s := ⟨_, List.getElem?_eq_getElem h⟩
        have hgs := G.gets E hs
        have hsf := hcf.2 s (List.mem_of_getElem? hs)
        have htk : ss.take (j + 1) = ss.take j ++ [s] := by rw [List.take_add_one, hs]; rfl
        obtain ⟨sk, sl, sm⟩ := s
        have f1 : 1 ≤ sk.length := hsf.some
        have f0 : sk.length ≤ 32 := hsf.few
        have f2 : 0 ≤ sl := hsf.low
        have f3 : sl ≤ sm := hsf.mid
        have f4 : sm ≤ 1000 := hsf.high
        have ps : Tw.Pur [AV.sl 1 (E.int.l sk), .int .i64 sl, .int .i64 sm] := Pur.mk (by (repeat (first | exact rfl | exact Emb.purL _ _ | assumption | apply pur_cons | apply pur_sl | apply pur_slt | apply pur_agg | apply pur_tup)))
        have hls : A.len (E.int.l sk) = (sk.length : Int) := by rw [A.ok_len, E.int.len]
        dsimp only at hgs
        ((try cbv) <;> (repeat ((with_reducible refine EW.of ?_); cbv)))
        (refine ⟨_, _, rfl, hgs, ?_⟩; cbv; ((try cbv) <;> (repeat ((with_reducible refine EW.of ?_); cbv))))
        refine bsplit (fun hc => ?_) (fun hc => ?_)
        · have hc : j < counts.length := lt_nt hc rfl hlc
          obtain ⟨c, hcv⟩ : ∃ c, counts[j]? = some c := ⟨_, List.getElem?_eq_getElem hc⟩
          have hgc := E.geti hcv
          obtain ⟨nn, hnn⟩ : ∃ n, n = A.mn (A.mx c sl) sm := ⟨_, rfl⟩
          have hn2 : sl ≤ nn ∧ nn ≤ sm := hnn ▸ mn_mx A f3
          ((try cbv) <;> (repeat ((with_reducible refine EW.of ?_); cbv)))
          (refine TW.draw (A := A) (T0_ok hP) (hP ▸ follows_mixed) (by kernel_rfl) rfl ?_; cbv)
          refine ⟨j, _, rfl, hgc, ?_⟩
          cbv
          refine EW.vs [(14, .int .i64 nn), (13, .imm [.sl 1 (E.int.l sk), .int .i64 sl, .int .i64 sm]), (12, .int .i64 j), (58, .int .i64 j), (57, .int .i64 (A.len (G.slot.l ss))), (56, .sl 3 (G.slot.l ss)), (11, .row 0 1 0 q), (10, .bool false), (5, .imm [.sl 3 (G.kind.l ks), .int .i64 root]), (1, .int .i64 m), (2, .sl 1 (E.int.l counts)), (3, .sl 1 (E.int.l picks)), (4, .sl 1 (E.int.l kids))] [some (.arr 1 (E.int.l l))] 145 rfl ?_
          cbv
          (repeat (first | exact trivial | refine And.intro (Emb.Pur _ _) ?_ | refine And.intro (inc_eq A (by omega)) ?_ | refine And.intro rfl ?_ | refine And.intro pg ?_ | refine And.intro hnn.symm ?_ | refine And.intro ps ?_))
          ((try cbv) <;> (repeat ((with_reducible refine EW.of ?_); cbv)))
          refine bsplit (fun hgt => ?_) (fun hgt => ?_)
          · skip
            ((try cbv) <;> (repeat ((with_reducible refine EW.of ?_); cbv)))
            (refine ⟨Ent.of (hP ▸ Try.func11) rfl, ?_⟩; refine TC.pureE h11 ?_; cbv; (repeat (first | exact trivial | refine And.intro (Emb.Pur _ _) ?_ | refine And.intro rfl ?_ | refine And.intro (Pur.mk rfl) ?_ | refine And.intro (Pur.mk (by assumption)) ?_)); ((try cbv) <;> (repeat ((with_reducible refine EW.of ?_); cbv))))
          have hgt : nn ≤ 200 - (l0.length : Int) := lt_f hgt hsub rfl
          obtain ⟨N, hN⟩ : ∃ N : Nat, nn = N := ⟨nn.toNat, by omega⟩
          subst hN
          have hgtN : N + l0.length ≤ 200 := by omega
          ((try cbv) <;> (repeat ((with_reducible refine EW.of ?_); cbv)))
          obtain ⟨S2, hS2⟩ : ∃ S : LI (Nat × Option (Nat × List Int)), S = ⟨fun x => [(86, .int .i64 x.1), (85, .int .i64 (N : Int)), (11, rowI 0 x.2), (13, .imm [.sl 1 (E.int.l sk), .int .i64 sl, .int .i64 sm]), (58, .int .i64 j), (57, .int .i64 (A.len (G.slot.l ss))), (56, .sl 3 (G.slot.l ss)), (10, .bool false), (5, .imm [.sl 3 (G.kind.l ks), .int .i64 root]), (1, .int .i64 m), (2, .sl 1 (E.int.l counts)), (3, .sl 1 (E.int.l picks)), (4, .sl 1 (E.int.l kids))], fun x => stI E [] x.2, fun x => x.1 ≤ N ∧ okI x.2 ∧ ∃ p, outI x.2 = l0 ++ p ∧ p.length = x.1 ∧ ∀ y ∈ p, mayB y sk = true, fun x => N - x.1⟩ := ⟨_, rfl⟩
          refine TW.loopM A (T0_ok hP) S2 _ rfl (0, oo) ?_ ?_ ?_
          · rw [hS2]; exact ⟨Nat.zero_le _, by rw [hoo]; exact hok, [], by show outI oo = l0 ++ []; rw [hoo, List.append_nil, hl0]; rfl, rfl, fun y hy => by cases hy⟩
          · rw [hS2, hoo]
            cbv
            (repeat (first | exact trivial | refine And.intro (Emb.Pur _ _) ?_ | refine And.intro (inc_eq A (by omega)) ?_ | refine And.intro rfl ?_ | refine And.intro pg ?_ | refine And.intro hnn.symm ?_ | refine And.intro ps ?_))
          rintro ⟨i, o2⟩ hi l2 L2 e1 e2
          rw [hS2] at hi e1 e2
          dsimp only at hi e1 e2
          obtain ⟨hi, hok2, p, hp1, hp2, hp3⟩ := hi
          subst e1
          obtain ⟨o3, ho3⟩ : ∃ o, o = o2 := ⟨_, rfl⟩
          obtain ⟨lo, hlo⟩ : ∃ l, l = outI o2 := ⟨_, rfl⟩
          rw [← hlo] at hp1
          have hlo3 : outI o3 = lo := by rw [ho3, hlo]
          cases o2 with
          | none =>
            dsimp only [stI, rowI, outI, okI] at e2 hok2 hlo ⊢
            subst e2
            cbv
            ((try cbv) <;> (repeat ((with_reducible refine EW.of ?_); cbv)))
            refine bsplit (fun h5 => ?_) (fun h5 => ?_)
            · have h5 : i < N := lt_nt h5 rfl rfl
              ((try cbv) <;> (repeat ((with_reducible refine EW.of ?_); cbv)))
              refine bsplit (fun h6 => ?_) (fun h6 => ?_)
              · have h6 : 0 < picks.length := lt_nt (i := 0) h6 rfl hlp
                obtain ⟨pk, hpk⟩ : ∃ x, picks[lo.length % picks.length]? = some x := ⟨_, List.getElem?_eq_getElem (Nat.mod_lt _ h6)⟩
                have hgp := E.geti hpk
                obtain ⟨kk, hkk, hkv⟩ := rem_rem A (x := pk) f1 (by omega)
                have hkv : A.op .rem .i64 (A.op .add .i64 (A.op .rem .i64 pk (A.len (E.int.l sk))) (A.len (E.int.l sk))) (A.len (E.int.l sk)) = (kk : Int) := by rw [hls]; exact hkv
                ((try cbv) <;> (repeat ((with_reducible refine EW.of ?_); cbv)))
                have hp0 : ¬ A.len (E.int.l picks) = 0 := by rw [hlp]; exact fun h => by have := Int.ofNat_inj.1 (show ((picks.length : Nat) : Int) = ((0 : Nat) : Int) from h); omega
                have hs0 : ¬ A.len (E.int.l sk) = 0 := by rw [hls]; exact fun h => by have := Int.ofNat_inj.1 (show ((sk.length : Nat) : Int) = ((0 : Nat) : Int) from h); omega
                (refine TW.draw (A := A) (T0_ok hP) (hP ▸ follows_mixed) (by kernel_rfl) rfl ?_; cbv)
                refine ⟨hp0, ?_⟩
                refine ⟨lo.length % picks.length, _, by first | (show A.op .rem .i64 0 (A.len (E.int.l picks)) = _; rw [hlp, hlo]; exact rem_len A (a := 0)) | (rw [show lo.length = q2 by rw [hok2, hlo]]; show A.op .rem .i64 (A.nat q2) (A.len (E.int.l picks)) = _; rw [A.ok_nat, hlp]; exact rem_len A), hgp, ?_⟩
                cbv
                refine ⟨hs0, ?_⟩
                cbv
                ((try cbv) <;> (repeat ((with_reducible refine EW.of ?_); cbv)))
                refine ⟨hs0, ?_⟩
                obtain ⟨y, hy⟩ : ∃ y, sk[kk]? = some y := ⟨_, List.getElem?_eq_getElem hkk⟩
                have hgy := E.geti hy
                have hmy := mayB_get hy
                obtain ⟨l9, hl9⟩ : ∃ d, d = lo ++ [y] := ⟨_, rfl⟩
                obtain ⟨q9, hq9⟩ : ∃ q, q = l9.length := ⟨_, rfl⟩
                have hlen9 : l9.length = l0.length + i + 1 := by rw [hl9, hp1]; simp [hp2]; omega
                ((try cbv) <;> (repeat ((with_reducible refine EW.of ?_); cbv)))
                refine ⟨kk, _, hkv, hgy, ?_⟩
                cbv
                ((try cbv) <;> (repeat ((with_reducible refine EW.of ?_); cbv)))
                first
                  | refine ⟨⟨rfl⟩, q9, E.int.l l9, by rw [hq9, hl9, hlo]; first | done | rfl, by rw [hl9, hlo, List.nil_append, E.int.cons, E.int.nil, E.iv]; first | done | rfl, Nat.zero_le _, by omega, by omega, ?_⟩
                  | refine ⟨⟨rfl⟩, q9, E.int.l l9, by rw [hq9, hl9, hlo, hok2]; simp, by rw [hl9, hlo, E.int.app, E.int.cons, E.int.nil, E.iv, List.take_of_length_le (by rw [E.int.len, hok2]; exact Nat.le_refl _)], by rw [E.int.len, hok2]; exact Nat.le_refl _, by omega, by omega, ?_⟩
                cbv
                ((try cbv) <;> (repeat ((with_reducible refine EW.of ?_); cbv)))
                refine LM.of (i + 1, some (q9, l9)) rfl ?_ ?_ ?_
                · rw [hS2]; exact ⟨by show i + 1 ≤ N; omega, hq9, p ++ [y], by show l9 = _; rw [hl9, hp1, List.append_assoc], by simp [hp2], fun z hz => (List.mem_append.1 hz).elim (hp3 z) (fun hz => by simp at hz; subst hz; exact hmy)⟩
                · rw [hS2]; show N - (i + 1) < N - i; omega
                · rw [hS2]
                  cbv
                  (repeat (first | exact trivial | refine And.intro (Emb.Pur _ _) ?_ | refine And.intro (inc_eq A (by omega)) ?_ | refine And.intro rfl ?_ | refine And.intro pg ?_ | refine And.intro hnn.symm ?_ | refine And.intro ps ?_))
              · obtain ⟨kk, hkk, hkv⟩ : ∃ kk : Nat, kk < sk.length ∧ (0 : Int) = (kk : Int) := ⟨0, f1, rfl⟩
                obtain ⟨y, hy⟩ : ∃ y, sk[kk]? = some y := ⟨_, List.getElem?_eq_getElem hkk⟩
                have hgy := E.geti hy
                have hmy := mayB_get hy
                obtain ⟨l9, hl9⟩ : ∃ d, d = lo ++ [y] := ⟨_, rfl⟩
                obtain ⟨q9, hq9⟩ : ∃ q, q = l9.length := ⟨_, rfl⟩
                have hlen9 : l9.length = l0.length + i + 1 := by rw [hl9, hp1]; simp [hp2]; omega
                ((try cbv) <;> (repeat ((with_reducible refine EW.of ?_); cbv)))
                refine ⟨kk, _, hkv, hgy, ?_⟩
                cbv
                ((try cbv) <;> (repeat ((with_reducible refine EW.of ?_); cbv)))
                first
                  | refine ⟨⟨rfl⟩, q9, E.int.l l9, by rw [hq9, hl9, hlo]; first | done | rfl, by rw [hl9, hlo, List.nil_append, E.int.cons, E.int.nil, E.iv]; first | done | rfl, Nat.zero_le _, by omega, by omega, ?_⟩
                  | refine ⟨⟨rfl⟩, q9, E.int.l l9, by rw [hq9, hl9, hlo, hok2]; simp, by rw [hl9, hlo, E.int.app, E.int.cons, E.int.nil, E.iv, List.take_of_length_le (by rw [E.int.len, hok2]; exact Nat.le_refl _)], by rw [E.int.len, hok2]; exact Nat.le_refl _, by omega, by omega, ?_⟩
                cbv
                ((try cbv) <;> (repeat ((with_reducible refine EW.of ?_); cbv)))
                refine LM.of (i + 1, some (q9, l9)) rfl ?_ ?_ ?_
                · rw [hS2]; exact ⟨by show i + 1 ≤ N; omega, hq9, p ++ [y], by show l9 = _; rw [hl9, hp1, List.append_assoc], by simp [hp2], fun z hz => (List.mem_append.1 hz).elim (hp3 z) (fun hz => by simp at hz; subst hz; exact hmy)⟩
                · rw [hS2]; show N - (i + 1) < N - i; omega
                · rw [hS2]
                  cbv
                  (repeat (first | exact trivial | refine And.intro (Emb.Pur _ _) ?_ | refine And.intro (inc_eq A (by omega)) ?_ | refine And.intro rfl ?_ | refine And.intro pg ?_ | refine And.intro hnn.symm ?_ | refine And.intro ps ?_))
            · have h5 : N ≤ i := lt_nf h5 rfl rfl
              ((try cbv) <;> (repeat ((with_reducible refine EW.of ?_); cbv)))
              refine LM.of (j + 1, o3) rfl ?_ ?_ ?_
              · rw [hS]; exact ⟨by show j + 1 ≤ _; omega, by rw [ho3]; exact hok2, by show (outI o3).length ≤ 200; rw [hlo3, hp1]; simp [hp2]; omega, by
                  show Made (ss.take (j + 1)) (outI o3)
                  rw [hlo3, htk, hp1]
                  have hpN : p.length = N := by omega
                  exact Made.snoc (by rw [hpN]; exact hn2.1) (by rw [hpN]; exact hn2.2) hp3 _ _ hmade⟩
              · rw [hS]; show ss.length - (j + 1) < ss.length - j; omega
              · rw [hS, ho3]
                cbv
                (repeat (first | exact trivial | refine And.intro (Emb.Pur _ _) ?_ | refine And.intro (inc_eq A (by omega)) ?_ | refine And.intro rfl ?_ | refine And.intro pg ?_ | refine And.intro hnn.symm ?_ | refine And.intro ps ?_))
          | some y2 =>
            obtain ⟨q2, l2⟩ := y2
            dsimp only [stI, rowI, outI, okI] at e2 hok2 hlo ⊢
            have hq200 : q2 ≤ 400 := by rw [hok2, ← hlo, hp1]; simp [hp2]; omega
            subst e2
            cbv
            ((try cbv) <;> (repeat ((with_reducible refine EW.of ?_); cbv)))
            refine bsplit (fun h5 => ?_) (fun h5 => ?_)
            · have h5 : i < N := lt_nt h5 rfl rfl
              ((try cbv) <;> (repeat ((with_reducible refine EW.of ?_); cbv)))
              refine bsplit (fun h6 => ?_) (fun h6 => ?_)
              · have h6 : 0 < picks.length := lt_nt (i := 0) h6 rfl hlp
                obtain ⟨pk, hpk⟩ : ∃ x, picks[lo.length % picks.length]? = some x := ⟨_, List.getElem?_eq_getElem (Nat.mod_lt _ h6)⟩
                have hgp := E.geti hpk
                obtain ⟨kk, hkk, hkv⟩ := rem_rem A (x := pk) f1 (by omega)
                have hkv : A.op .rem .i64 (A.op .add .i64 (A.op .rem .i64 pk (A.len (E.int.l sk))) (A.len (E.int.l sk))) (A.len (E.int.l sk)) = (kk : Int) := by rw [hls]; exact hkv
                ((try cbv) <;> (repeat ((with_reducible refine EW.of ?_); cbv)))
                have hp0 : ¬ A.len (E.int.l picks) = 0 := by rw [hlp]; exact fun h => by have := Int.ofNat_inj.1 (show ((picks.length : Nat) : Int) = ((0 : Nat) : Int) from h); omega
                have hs0 : ¬ A.len (E.int.l sk) = 0 := by rw [hls]; exact fun h => by have := Int.ofNat_inj.1 (show ((sk.length : Nat) : Int) = ((0 : Nat) : Int) from h); omega
                (refine TW.draw (A := A) (T0_ok hP) (hP ▸ follows_mixed) (by kernel_rfl) rfl ?_; cbv)
                refine ⟨hp0, ?_⟩
                refine ⟨lo.length % picks.length, _, by first | (show A.op .rem .i64 0 (A.len (E.int.l picks)) = _; rw [hlp, hlo]; exact rem_len A (a := 0)) | (rw [show lo.length = q2 by rw [hok2, hlo]]; show A.op .rem .i64 (A.nat q2) (A.len (E.int.l picks)) = _; rw [A.ok_nat, hlp]; exact rem_len A), hgp, ?_⟩
                cbv
                refine ⟨hs0, ?_⟩
                cbv
                ((try cbv) <;> (repeat ((with_reducible refine EW.of ?_); cbv)))
                refine ⟨hs0, ?_⟩
                obtain ⟨y, hy⟩ : ∃ y, sk[kk]? = some y := ⟨_, List.getElem?_eq_getElem hkk⟩
                have hgy := E.geti hy
                have hmy := mayB_get hy
                obtain ⟨l9, hl9⟩ : ∃ d, d = lo ++ [y] := ⟨_, rfl⟩
                obtain ⟨q9, hq9⟩ : ∃ q, q = l9.length := ⟨_, rfl⟩
                have hlen9 : l9.length = l0.length + i + 1 := by rw [hl9, hp1]; simp [hp2]; omega
                ((try cbv) <;> (repeat ((with_reducible refine EW.of ?_); cbv)))
                refine ⟨kk, _, hkv, hgy, ?_⟩
                cbv
                ((try cbv) <;> (repeat ((with_reducible refine EW.of ?_); cbv)))
                first
                  | refine ⟨⟨rfl⟩, q9, E.int.l l9, by rw [hq9, hl9, hlo]; first | done | rfl, by rw [hl9, hlo, List.nil_append, E.int.cons, E.int.nil, E.iv]; first | done | rfl, Nat.zero_le _, by omega, by omega, ?_⟩
                  | refine ⟨⟨rfl⟩, q9, E.int.l l9, by rw [hq9, hl9, hlo, hok2]; simp, by rw [hl9, hlo, E.int.app, E.int.cons, E.int.nil, E.iv, List.take_of_length_le (by rw [E.int.len, hok2]; exact Nat.le_refl _)], by rw [E.int.len, hok2]; exact Nat.le_refl _, by omega, by omega, ?_⟩
                cbv
                ((try cbv) <;> (repeat ((with_reducible refine EW.of ?_); cbv)))
                refine LM.of (i + 1, some (q9, l9)) rfl ?_ ?_ ?_
                · rw [hS2]; exact ⟨by show i + 1 ≤ N; omega, hq9, p ++ [y], by show l9 = _; rw [hl9, hp1, List.append_assoc], by simp [hp2], fun z hz => (List.mem_append.1 hz).elim (hp3 z) (fun hz => by simp at hz; subst hz; exact hmy)⟩
                · rw [hS2]; show N - (i + 1) < N - i; omega
                · rw [hS2]
                  cbv
                  (repeat (first | exact trivial | refine And.intro (Emb.Pur _ _) ?_ | refine And.intro (inc_eq A (by omega)) ?_ | refine And.intro rfl ?_ | refine And.intro pg ?_ | refine And.intro hnn.symm ?_ | refine And.intro ps ?_))
              · obtain ⟨kk, hkk, hkv⟩ : ∃ kk : Nat, kk < sk.length ∧ (0 : Int) = (kk : Int) := ⟨0, f1, rfl⟩
                obtain ⟨y, hy⟩ : ∃ y, sk[kk]? = some y := ⟨_, List.getElem?_eq_getElem hkk⟩
                have hgy := E.geti hy
                have hmy := mayB_get hy
                obtain ⟨l9, hl9⟩ : ∃ d, d = lo ++ [y] := ⟨_, rfl⟩
                obtain ⟨q9, hq9⟩ : ∃ q, q = l9.length := ⟨_, rfl⟩
                have hlen9 : l9.length = l0.length + i + 1 := by rw [hl9, hp1]; simp [hp2]; omega
                ((try cbv) <;> (repeat ((with_reducible refine EW.of ?_); cbv)))
                refine ⟨kk, _, hkv, hgy, ?_⟩
                cbv
                ((try cbv) <;> (repeat ((with_reducible refine EW.of ?_); cbv)))
                first
                  | refine ⟨⟨rfl⟩, q9, E.int.l l9, by rw [hq9, hl9, hlo]; first | done | rfl, by rw [hl9, hlo, List.nil_append, E.int.cons, E.int.nil, E.iv]; first | done | rfl, Nat.zero_le _, by omega, by omega, ?_⟩
                  | refine ⟨⟨rfl⟩, q9, E.int.l l9, by rw [hq9, hl9, hlo, hok2]; simp, by rw [hl9, hlo, E.int.app, E.int.cons, E.int.nil, E.iv, List.take_of_length_le (by rw [E.int.len, hok2]; exact Nat.le_refl _)], by rw [E.int.len, hok2]; exact Nat.le_refl _, by omega, by omega, ?_⟩
                cbv
                ((try cbv) <;> (repeat ((with_reducible refine EW.of ?_); cbv)))
                refine LM.of (i + 1, some (q9, l9)) rfl ?_ ?_ ?_
                · rw [hS2]; exact ⟨by show i + 1 ≤ N; omega, hq9, p ++ [y], by show l9 = _; rw [hl9, hp1, List.append_assoc], by simp [hp2], fun z hz => (List.mem_append.1 hz).elim (hp3 z) (fun hz => by simp at hz; subst hz; exact hmy)⟩
                · rw [hS2]; show N - (i + 1) < N - i; omega
                · rw [hS2]
                  cbv
                  (repeat (first | exact trivial | refine And.intro (Emb.Pur _ _) ?_ | refine And.intro (inc_eq A (by omega)) ?_ | refine And.intro rfl ?_ | refine And.intro pg ?_ | refine And.intro hnn.symm ?_ | refine And.intro ps ?_))
            · have h5 : N ≤ i := lt_nf h5 rfl rfl
              ((try cbv) <;> (repeat ((with_reducible refine EW.of ?_); cbv)))
              refine LM.of (j + 1, o3) rfl ?_ ?_ ?_
              · rw [hS]; exact ⟨by show j + 1 ≤ _; omega, by rw [ho3]; exact hok2, by show (outI o3).length ≤ 200; rw [hlo3, hp1]; simp [hp2]; omega, by
                  show Made (ss.take (j + 1)) (outI o3)
                  rw [hlo3, htk, hp1]
                  have hpN : p.length = N := by omega
                  exact Made.snoc (by rw [hpN]; exact hn2.1) (by rw [hpN]; exact hn2.2) hp3 _ _ hmade⟩
              · rw [hS]; show ss.length - (j + 1) < ss.length - j; omega
              · rw [hS, ho3]
                cbv
                (repeat (first | exact trivial | refine And.intro (Emb.Pur _ _) ?_ | refine And.intro (inc_eq A (by omega)) ?_ | refine And.intro rfl ?_ | refine And.intro pg ?_ | refine And.intro hnn.symm ?_ | refine And.intro ps ?_))
        · obtain ⟨nn, hnn⟩ : ∃ n, n = sl := ⟨_, rfl⟩
          have hn2 : sl ≤ nn ∧ nn ≤ sm := by omega
          refine EW.vs [(14, .int .i64 nn), (13, .imm [.sl 1 (E.int.l sk), .int .i64 sl, .int .i64 sm]), (12, .int .i64 j), (58, .int .i64 j), (57, .int .i64 (A.len (G.slot.l ss))), (56, .sl 3 (G.slot.l ss)), (11, .row 0 1 0 q), (10, .bool false), (5, .imm [.sl 3 (G.kind.l ks), .int .i64 root]), (1, .int .i64 m), (2, .sl 1 (E.int.l counts)), (3, .sl 1 (E.int.l picks)), (4, .sl 1 (E.int.l kids))] [some (.arr 1 (E.int.l l))] 145 rfl ?_
          cbv
          (repeat (first | exact trivial | refine And.intro (Emb.Pur _ _) ?_ | refine And.intro (inc_eq A (by omega)) ?_ | refine And.intro rfl ?_ | refine And.intro pg ?_ | refine And.intro hnn.symm ?_ | refine And.intro ps ?_))
          ((try cbv) <;> (repeat ((with_reducible refine EW.of ?_); cbv)))
          refine bsplit (fun hgt => ?_) (fun hgt => ?_)
          · skip
            ((try cbv) <;> (repeat ((with_reducible refine EW.of ?_); cbv)))
            (refine ⟨Ent.of (hP ▸ Try.func11) rfl, ?_⟩; refine TC.pureE h11 ?_; cbv; (repeat (first | exact trivial | refine And.intro (Emb.Pur _ _) ?_ | refine And.intro rfl ?_ | refine And.intro (Pur.mk rfl) ?_ | refine And.intro (Pur.mk (by assumption)) ?_)); ((try cbv) <;> (repeat ((with_reducible refine EW.of ?_); cbv))))
          have hgt : nn ≤ 200 - (l0.length : Int) := lt_f hgt hsub rfl
          obtain ⟨N, hN⟩ : ∃ N : Nat, nn = N := ⟨nn.toNat, by omega⟩
          subst hN
          have hgtN : N + l0.length ≤ 200 := by omega
          ((try cbv) <;> (repeat ((with_reducible refine EW.of ?_); cbv)))
          obtain ⟨S2, hS2⟩ : ∃ S : LI (Nat × Option (Nat × List Int)), S = ⟨fun x => [(86, .int .i64 x.1), (85, .int .i64 (N : Int)), (11, rowI 0 x.2), (13, .imm [.sl 1 (E.int.l sk), .int .i64 sl, .int .i64 sm]), (58, .int .i64 j), (57, .int .i64 (A.len (G.slot.l ss))), (56, .sl 3 (G.slot.l ss)), (10, .bool false), (5, .imm [.sl 3 (G.kind.l ks), .int .i64 root]), (1, .int .i64 m), (2, .sl 1 (E.int.l counts)), (3, .sl 1 (E.int.l picks)), (4, .sl 1 (E.int.l kids))], fun x => stI E [] x.2, fun x => x.1 ≤ N ∧ okI x.2 ∧ ∃ p, outI x.2 = l0 ++ p ∧ p.length = x.1 ∧ ∀ y ∈ p, mayB y sk = true, fun x => N - x.1⟩ := ⟨_, rfl⟩
          refine TW.loopM A (T0_ok hP) S2 _ rfl (0, oo) ?_ ?_ ?_
          · rw [hS2]; exact ⟨Nat.zero_le _, by rw [hoo]; exact hok, [], by show outI oo = l0 ++ []; rw [hoo, List.append_nil, hl0]; rfl, rfl, fun y hy => by cases hy⟩
          · rw [hS2, hoo]
            cbv
            (repeat (first | exact trivial | refine And.intro (Emb.Pur _ _) ?_ | refine And.intro (inc_eq A (by omega)) ?_ | refine And.intro rfl ?_ | refine And.intro pg ?_ | refine And.intro hnn.symm ?_ | refine And.intro ps ?_))
          rintro ⟨i, o2⟩ hi l2 L2 e1 e2
          rw [hS2] at hi e1 e2
          dsimp only at hi e1 e2
          obtain ⟨hi, hok2, p, hp1, hp2, hp3⟩ := hi
          subst e1
          obtain ⟨o3, ho3⟩ : ∃ o, o = o2 := ⟨_, rfl⟩
          obtain ⟨lo, hlo⟩ : ∃ l, l = outI o2 := ⟨_, rfl⟩
          rw [← hlo] at hp1
          have hlo3 : outI o3 = lo := by rw [ho3, hlo]
          cases o2 with
          | none =>
            dsimp only [stI, rowI, outI, okI] at e2 hok2 hlo ⊢
            subst e2
            cbv
            ((try cbv) <;> (repeat ((with_reducible refine EW.of ?_); cbv)))
            refine bsplit (fun h5 => ?_) (fun h5 => ?_)
            · have h5 : i < N := lt_nt h5 rfl rfl
              ((try cbv) <;> (repeat ((with_reducible refine EW.of ?_); cbv)))
              refine bsplit (fun h6 => ?_) (fun h6 => ?_)
              · have h6 : 0 < picks.length := lt_nt (i := 0) h6 rfl hlp
                obtain ⟨pk, hpk⟩ : ∃ x, picks[lo.length % picks.length]? = some x := ⟨_, List.getElem?_eq_getElem (Nat.mod_lt _ h6)⟩
                have hgp := E.geti hpk
                obtain ⟨kk, hkk, hkv⟩ := rem_rem A (x := pk) f1 (by omega)
                have hkv : A.op .rem .i64 (A.op .add .i64 (A.op .rem .i64 pk (A.len (E.int.l sk))) (A.len (E.int.l sk))) (A.len (E.int.l sk)) = (kk : Int) := by rw [hls]; exact hkv
                ((try cbv) <;> (repeat ((with_reducible refine EW.of ?_); cbv)))
                have hp0 : ¬ A.len (E.int.l picks) = 0 := by rw [hlp]; exact fun h => by have := Int.ofNat_inj.1 (show ((picks.length : Nat) : Int) = ((0 : Nat) : Int) from h); omega
                have hs0 : ¬ A.len (E.int.l sk) = 0 := by rw [hls]; exact fun h => by have := Int.ofNat_inj.1 (show ((sk.length : Nat) : Int) = ((0 : Nat) : Int) from h); omega
                (refine TW.draw (A := A) (T0_ok hP) (hP ▸ follows_mixed) (by kernel_rfl) rfl ?_; cbv)
                refine ⟨hp0, ?_⟩
                refine ⟨lo.length % picks.length, _, by first | (show A.op .rem .i64 0 (A.len (E.int.l picks)) = _; rw [hlp, hlo]; exact rem_len A (a := 0)) | (rw [show lo.length = q2 by rw [hok2, hlo]]; show A.op .rem .i64 (A.nat q2) (A.len (E.int.l picks)) = _; rw [A.ok_nat, hlp]; exact rem_len A), hgp, ?_⟩
                cbv
                refine ⟨hs0, ?_⟩
                cbv
                ((try cbv) <;> (repeat ((with_reducible refine EW.of ?_); cbv)))
                refine ⟨hs0, ?_⟩
                obtain ⟨y, hy⟩ : ∃ y, sk[kk]? = some y := ⟨_, List.getElem?_eq_getElem hkk⟩
                have hgy := E.geti hy
                have hmy := mayB_get hy
                obtain ⟨l9, hl9⟩ : ∃ d, d = lo ++ [y] := ⟨_, rfl⟩
                obtain ⟨q9, hq9⟩ : ∃ q, q = l9.length := ⟨_, rfl⟩
                have hlen9 : l9.length = l0.length + i + 1 := by rw [hl9, hp1]; simp [hp2]; omega
                ((try cbv) <;> (repeat ((with_reducible refine EW.of ?_); cbv)))
                refine ⟨kk, _, hkv, hgy, ?_⟩
                cbv
                ((try cbv) <;> (repeat ((with_reducible refine EW.of ?_); cbv)))
                first
                  | refine ⟨⟨rfl⟩, q9, E.int.l l9, by rw [hq9, hl9, hlo]; first | done | rfl, by rw [hl9, hlo, List.nil_append, E.int.cons, E.int.nil, E.iv]; first | done | rfl, Nat.zero_le _, by omega, by omega, ?_⟩
                  | refine ⟨⟨rfl⟩, q9, E.int.l l9, by rw [hq9, hl9, hlo, hok2]; simp, by rw [hl9, hlo, E.int.app, E.int.cons, E.int.nil, E.iv, List.take_of_length_le (by rw [E.int.len, hok2]; exact Nat.le_refl _)], by rw [E.int.len, hok2]; exact Nat.le_refl _, by omega, by omega, ?_⟩
                cbv
                ((try cbv) <;> (repeat ((with_reducible refine EW.of ?_); cbv)))
                refine LM.of (i + 1, some (q9, l9)) rfl ?_ ?_ ?_
                · rw [hS2]; exact ⟨by show i + 1 ≤ N; omega, hq9, p ++ [y], by show l9 = _; rw [hl9, hp1, List.append_assoc], by simp [hp2], fun z hz => (List.mem_append.1 hz).elim (hp3 z) (fun hz => by simp at hz; subst hz; exact hmy)⟩
                · rw [hS2]; show N - (i + 1) < N - i; omega
                · rw [hS2]
                  cbv
                  (repeat (first | exact trivial | refine And.intro (Emb.Pur _ _) ?_ | refine And.intro (inc_eq A (by omega)) ?_ | refine And.intro rfl ?_ | refine And.intro pg ?_ | refine And.intro hnn.symm ?_ | refine And.intro ps ?_))
              · obtain ⟨kk, hkk, hkv⟩ : ∃ kk : Nat, kk < sk.length ∧ (0 : Int) = (kk : Int) := ⟨0, f1, rfl⟩
                obtain ⟨y, hy⟩ : ∃ y, sk[kk]? = some y := ⟨_, List.getElem?_eq_getElem hkk⟩
                have hgy := E.geti hy
                have hmy := mayB_get hy
                obtain ⟨l9, hl9⟩ : ∃ d, d = lo ++ [y] := ⟨_, rfl⟩
                obtain ⟨q9, hq9⟩ : ∃ q, q = l9.length := ⟨_, rfl⟩
                have hlen9 : l9.length = l0.length + i + 1 := by rw [hl9, hp1]; simp [hp2]; omega
                ((try cbv) <;> (repeat ((with_reducible refine EW.of ?_); cbv)))
                refine ⟨kk, _, hkv, hgy, ?_⟩
                cbv
                ((try cbv) <;> (repeat ((with_reducible refine EW.of ?_); cbv)))
                first
                  | refine ⟨⟨rfl⟩, q9, E.int.l l9, by rw [hq9, hl9, hlo]; first | done | rfl, by rw [hl9, hlo, List.nil_append, E.int.cons, E.int.nil, E.iv]; first | done | rfl, Nat.zero_le _, by omega, by omega, ?_⟩
                  | refine ⟨⟨rfl⟩, q9, E.int.l l9, by rw [hq9, hl9, hlo, hok2]; simp, by rw [hl9, hlo, E.int.app, E.int.cons, E.int.nil, E.iv, List.take_of_length_le (by rw [E.int.len, hok2]; exact Nat.le_refl _)], by rw [E.int.len, hok2]; exact Nat.le_refl _, by omega, by omega, ?_⟩
                cbv
                ((try cbv) <;> (repeat ((with_reducible refine EW.of ?_); cbv)))
                refine LM.of (i + 1, some (q9, l9)) rfl ?_ ?_ ?_
                · rw [hS2]; exact ⟨by show i + 1 ≤ N; omega, hq9, p ++ [y], by show l9 = _; rw [hl9, hp1, List.append_assoc], by simp [hp2], fun z hz => (List.mem_append.1 hz).elim (hp3 z) (fun hz => by simp at hz; subst hz; exact hmy)⟩
                · rw [hS2]; show N - (i + 1) < N - i; omega
                · rw [hS2]
                  cbv
                  (repeat (first | exact trivial | refine And.intro (Emb.Pur _ _) ?_ | refine And.intro (inc_eq A (by omega)) ?_ | refine And.intro rfl ?_ | refine And.intro pg ?_ | refine And.intro hnn.symm ?_ | refine And.intro ps ?_))
            · have h5 : N ≤ i := lt_nf h5 rfl rfl
              ((try cbv) <;> (repeat ((with_reducible refine EW.of ?_); cbv)))
              refine LM.of (j + 1, o3) rfl ?_ ?_ ?_
              · rw [hS]; exact ⟨by show j + 1 ≤ _; omega, by rw [ho3]; exact hok2, by show (outI o3).length ≤ 200; rw [hlo3, hp1]; simp [hp2]; omega, by
                  show Made (ss.take (j + 1)) (outI o3)
                  rw [hlo3, htk, hp1]
                  have hpN : p.length = N := by omega
                  exact Made.snoc (by rw [hpN]; exact hn2.1) (by rw [hpN]; exact hn2.2) hp3 _ _ hmade⟩
              · rw [hS]; show ss.length - (j + 1) < ss.length - j; omega
              · rw [hS, ho3]
                cbv
                (repeat (first | exact trivial | refine And.intro (Emb.Pur _ _) ?_ | refine And.intro (inc_eq A (by omega)) ?_ | refine And.intro rfl ?_ | refine And.intro pg ?_ | refine And.intro hnn.symm ?_ | refine And.intro ps ?_))
          | some y2 =>
            obtain ⟨q2, l2⟩ := y2
            dsimp only [stI, rowI, outI, okI] at e2 hok2 hlo ⊢
            have hq200 : q2 ≤ 400 := by rw [hok2, ← hlo, hp1]; simp [hp2]; omega
            subst e2
            cbv
            ((try cbv) <;> (repeat ((with_reducible refine EW.of ?_); cbv)))
            refine bsplit (fun h5 => ?_) (fun h5 => ?_)
            · have h5 : i < N := lt_nt h5 rfl rfl
              ((try cbv) <;> (repeat ((with_reducible refine EW.of ?_); cbv)))
              refine bsplit (fun h6 => ?_) (fun h6 => ?_)
              · have h6 : 0 < picks.length := lt_nt (i := 0) h6 rfl hlp
                obtain ⟨pk, hpk⟩ : ∃ x, picks[lo.length % picks.length]? = some x := ⟨_, List.getElem?_eq_getElem (Nat.mod_lt _ h6)⟩
                have hgp := E.geti hpk
                obtain ⟨kk, hkk, hkv⟩ := rem_rem A (x := pk) f1 (by omega)
                have hkv : A.op .rem .i64 (A.op .add .i64 (A.op .rem .i64 pk (A.len (E.int.l sk))) (A.len (E.int.l sk))) (A.len (E.int.l sk)) = (kk : Int) := by rw [hls]; exact hkv
                ((try cbv) <;> (repeat ((with_reducible refine EW.of ?_); cbv)))
                have hp0 : ¬ A.len (E.int.l picks) = 0 := by rw [hlp]; exact fun h => by have := Int.ofNat_inj.1 (show ((picks.length : Nat) : Int) = ((0 : Nat) : Int) from h); omega
                have hs0 : ¬ A.len (E.int.l sk) = 0 := by rw [hls]; exact fun h => by have := Int.ofNat_inj.1 (show ((sk.length : Nat) : Int) = ((0 : Nat) : Int) from h); omega
                (refine TW.draw (A := A) (T0_ok hP) (hP ▸ follows_mixed) (by kernel_rfl) rfl ?_; cbv)
                refine ⟨hp0, ?_⟩
                refine ⟨lo.length % picks.length, _, by first | (show A.op .rem .i64 0 (A.len (E.int.l picks)) = _; rw [hlp, hlo]; exact rem_len A (a := 0)) | (rw [show lo.length = q2 by rw [hok2, hlo]]; show A.op .rem .i64 (A.nat q2) (A.len (E.int.l picks)) = _; rw [A.ok_nat, hlp]; exact rem_len A), hgp, ?_⟩
                cbv
                refine ⟨hs0, ?_⟩
                cbv
                ((try cbv) <;> (repeat ((with_reducible refine EW.of ?_); cbv)))
                refine ⟨hs0, ?_⟩
                obtain ⟨y, hy⟩ : ∃ y, sk[kk]? = some y := ⟨_, List.getElem?_eq_getElem hkk⟩
                have hgy := E.geti hy
                have hmy := mayB_get hy
                obtain ⟨l9, hl9⟩ : ∃ d, d = lo ++ [y] := ⟨_, rfl⟩
                obtain ⟨q9, hq9⟩ : ∃ q, q = l9.length := ⟨_, rfl⟩
                have hlen9 : l9.length = l0.length + i + 1 := by rw [hl9, hp1]; simp [hp2]; omega
                ((try cbv) <;> (repeat ((with_reducible refine EW.of ?_); cbv)))
                refine ⟨kk, _, hkv, hgy, ?_⟩
                cbv
                ((try cbv) <;> (repeat ((with_reducible refine EW.of ?_); cbv)))
                first
                  | refine ⟨⟨rfl⟩, q9, E.int.l l9, by rw [hq9, hl9, hlo]; first | done | rfl, by rw [hl9, hlo, List.nil_append, E.int.cons, E.int.nil, E.iv]; first | done | rfl, Nat.zero_le _, by omega, by omega, ?_⟩
                  | refine ⟨⟨rfl⟩, q9, E.int.l l9, by rw [hq9, hl9, hlo, hok2]; simp, by rw [hl9, hlo, E.int.app, E.int.cons, E.int.nil, E.iv, List.take_of_length_le (by rw [E.int.len, hok2]; exact Nat.le_refl _)], by rw [E.int.len, hok2]; exact Nat.le_refl _, by omega, by omega, ?_⟩
                cbv
                ((try cbv) <;> (repeat ((with_reducible refine EW.of ?_); cbv)))
                refine LM.of (i + 1, some (q9, l9)) rfl ?_ ?_ ?_
                · rw [hS2]; exact ⟨by show i + 1 ≤ N; omega, hq9, p ++ [y], by show l9 = _; rw [hl9, hp1, List.append_assoc], by simp [hp2], fun z hz => (List.mem_append.1 hz).elim (hp3 z) (fun hz => by simp at hz; subst hz; exact hmy)⟩
                · rw [hS2]; show N - (i + 1) < N - i; omega
                · rw [hS2]
                  cbv
                  (repeat (first | exact trivial | refine And.intro (Emb.Pur _ _) ?_ | refine And.intro (inc_eq A (by omega)) ?_ | refine And.intro rfl ?_ | refine And.intro pg ?_ | refine And.intro hnn.symm ?_ | refine And.intro ps ?_))
              · obtain ⟨kk, hkk, hkv⟩ : ∃ kk : Nat, kk < sk.length ∧ (0 : Int) = (kk : Int) := ⟨0, f1, rfl⟩
                obtain ⟨y, hy⟩ : ∃ y, sk[kk]? = some y := ⟨_, List.getElem?_eq_getElem hkk⟩
                have hgy := E.geti hy
                have hmy := mayB_get hy
                obtain ⟨l9, hl9⟩ : ∃ d, d = lo ++ [y] := ⟨_, rfl⟩
                obtain ⟨q9, hq9⟩ : ∃ q, q = l9.length := ⟨_, rfl⟩
                have hlen9 : l9.length = l0.length + i + 1 := by rw [hl9, hp1]; simp [hp2]; omega
                ((try cbv) <;> (repeat ((with_reducible refine EW.of ?_); cbv)))
                refine ⟨kk, _, hkv, hgy, ?_⟩
                cbv
                ((try cbv) <;> (repeat ((with_reducible refine EW.of ?_); cbv)))
                first
                  | refine ⟨⟨rfl⟩, q9, E.int.l l9, by rw [hq9, hl9, hlo]; first | done | rfl, by rw [hl9, hlo, List.nil_append, E.int.cons, E.int.nil, E.iv]; first | done | rfl, Nat.zero_le _, by omega, by omega, ?_⟩
                  | refine ⟨⟨rfl⟩, q9, E.int.l l9, by rw [hq9, hl9, hlo, hok2]; simp, by rw [hl9, hlo, E.int.app, E.int.cons, E.int.nil, E.iv, List.take_of_length_le (by rw [E.int.len, hok2]; exact Nat.le_refl _)], by rw [E.int.len, hok2]; exact Nat.le_refl _, by omega, by omega, ?_⟩
                cbv
                ((try cbv) <;> (repeat ((with_reducible refine EW.of ?_); cbv)))
                refine LM.of (i + 1, some (q9, l9)) rfl ?_ ?_ ?_
                · rw [hS2]; exact ⟨by show i + 1 ≤ N; omega, hq9, p ++ [y], by show l9 = _; rw [hl9, hp1, List.append_assoc], by simp [hp2], fun z hz => (List.mem_append.1 hz).elim (hp3 z) (fun hz => by simp at hz; subst hz; exact hmy)⟩
                · rw [hS2]; show N - (i + 1) < N - i; omega
                · rw [hS2]
                  cbv
                  (repeat (first | exact trivial | refine And.intro (Emb.Pur _ _) ?_ | refine And.intro (inc_eq A (by omega)) ?_ | refine And.intro rfl ?_ | refine And.intro pg ?_ | refine And.intro hnn.symm ?_ | refine And.intro ps ?_))
            · have h5 : N ≤ i := lt_nf h5 rfl rfl
              ((try cbv) <;> (repeat ((with_reducible refine EW.of ?_); cbv)))
              refine LM.of (j + 1, o3) rfl ?_ ?_ ?_
              · rw [hS]; exact ⟨by show j + 1 ≤ _; omega, by rw [ho3]; exact hok2, by show (outI o3).length ≤ 200; rw [hlo3, hp1]; simp [hp2]; omega, by
                  show Made (ss.take (j + 1)) (outI o3)
                  rw [hlo3, htk, hp1]
                  have hpN : p.length = N := by omega
                  exact Made.snoc (by rw [hpN]; exact hn2.1) (by rw [hpN]; exact hn2.2) hp3 _ _ hmade⟩
              · rw [hS]; show ss.length - (j + 1) < ss.length - j; omega
              · rw [hS, ho3]
                cbv
                (repeat (first | exact trivial | refine And.intro (Emb.Pur _ _) ?_ | refine And.intro (inc_eq A (by omega)) ?_ | refine And.intro rfl ?_ | refine And.intro pg ?_ | refine And.intro hnn.symm ?_ | refine And.intro ps ?_))
      · have h : ss.length ≤ j := lt_nf h rfl hsk
        rw [List.take_of_length_le h] at hmade
        have k12 := h12 l0 (by omega)
        rw [hmf l0 h200 hmade] at k12
        have k12b := h12 kids hkl
        obtain ⟨r, hr⟩ : ∃ r, r = fit kids := ⟨_, rfl⟩
        rw [← hr] at k12b
        replace hfl := hfl kids
        rw [← hr] at hfl
        ((try cbv) <;> (repeat ((with_reducible refine EW.of ?_); cbv)))
        (refine ⟨Ent.of (hP ▸ Try.func12) rfl, ?_⟩; refine TC.pureF [0] k12 (by (repeat (first | exact rfl | exact Emb.purL _ _ | assumption | apply pur_cons | apply pur_sl | apply pur_slt | apply pur_agg | apply pur_tup))) ?_; cbv; (repeat (first | exact trivial | refine And.intro (Emb.Pur _ _) ?_ | refine And.intro rfl ?_ | refine And.intro (Pur.mk rfl) ?_ | refine And.intro (Pur.mk (by assumption)) ?_)); ((try cbv) <;> (repeat ((with_reducible refine EW.of ?_); cbv))))
        refine And.intro (by rw [hl0]; exact E.int.cut hok) (And.intro (E.int.Pur _) ?_)
        ((try cbv) <;> (repeat ((with_reducible refine EW.of ?_); cbv)))
        (refine ⟨Ent.of (hP ▸ Try.func12) rfl, ?_⟩; refine TC.pureE k12b ?_; cbv; (repeat (first | exact trivial | refine And.intro (Emb.Pur _ _) ?_ | refine And.intro rfl ?_ | refine And.intro (Pur.mk rfl) ?_ | refine And.intro (Pur.mk (by assumption)) ?_)); ((try cbv) <;> (repeat ((with_reducible refine EW.of ?_); cbv))))
        cases r with
        | false =>
          ((try cbv) <;> (repeat ((with_reducible refine EW.of ?_); cbv)))
          ((try cbv) <;> (repeat ((with_reducible refine EW.of ?_); cbv)))
          (refine ⟨Ent.of (hP ▸ Try.func11) rfl, ?_⟩; refine TC.pureE h11 ?_; cbv; (repeat (first | exact trivial | refine And.intro (Emb.Pur _ _) ?_ | refine And.intro rfl ?_ | refine And.intro (Pur.mk rfl) ?_ | refine And.intro (Pur.mk (by assumption)) ?_)); ((try cbv) <;> (repeat ((with_reducible refine EW.of ?_); cbv))))
        | true =>
          have hfl := hfl rfl
          ((try cbv) <;> (repeat ((with_reducible refine EW.of ?_); cbv)))
          (refine ⟨Ent.of (hP ▸ Try.func15) rfl, ?_⟩; refine TC.pureE h15 ?_; cbv; (repeat (first | exact trivial | refine And.intro (Emb.Pur _ _) ?_ | refine And.intro rfl ?_ | refine And.intro (Pur.mk rfl) ?_ | refine And.intro (Pur.mk (by assumption)) ?_)); ((try cbv) <;> (repeat ((with_reducible refine EW.of ?_); cbv))))
          refine bno (ltF (show least ≤ A.len (E.int.l kids) by rw [hlk]; exact hfl.1)) ?_
          ((try cbv) <;> (repeat ((with_reducible refine EW.of ?_); cbv)))
          refine bno (ltF (show A.len (E.int.l kids) ≤ 200 by rw [hlk]; exact Int.ofNat_le.2 hfl.2)) ?_
          ((try cbv) <;> (repeat ((with_reducible refine EW.of ?_); cbv)))
          ((try cbv) <;> (repeat ((with_reducible refine EW.of ?_); cbv)))
          (refine ⟨Ent.of (hP ▸ Try.func11) rfl, ?_⟩; refine TC.pureE h11 ?_; cbv; (repeat (first | exact trivial | refine And.intro (Emb.Pur _ _) ?_ | refine And.intro rfl ?_ | refine And.intro (Pur.mk rfl) ?_ | refine And.intro (Pur.mk (by assumption)) ?_)); ((try cbv) <;> (repeat ((with_reducible refine EW.of ?_); cbv))))
end Go.Proofs.Ytlngpfocngfokaa
