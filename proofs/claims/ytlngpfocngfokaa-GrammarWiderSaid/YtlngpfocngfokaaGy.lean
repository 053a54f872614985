import Derived.Test.YtlngpfocngfokaaGx
/-! The law about wider slots. -/
namespace Go.Proofs.Ytlngpfocngfokaa
open Go.Proofs.Ytlngpfocngfokaa.Tw
theorem mcons {a : AV} {l r : List AV} {X : Prop} {Y : AV → List AV → Prop} : l = a :: r → Y a r → (match l with | [] => X | x :: xs => Y x xs) := by rintro rfl hY; exact hY
theorem z_add (m : Nat) : (match 0, m with | a, Nat.zero => a | a, Nat.succ b => Nat.succ (Nat.add a b)) = m := by
  cases m with
  | zero => rfl
  | succ n => exact congrArg Nat.succ (Nat.zero_add n)
theorem EmG.scalk (G : EmG) (ks : List Knd) : escal (G.kind.l ks) = true := by
  rw [G.kind.ok, G.ok_kind, escal, List.all_map, List.all_eq_true]
  intro k _
  rfl
theorem EmG.scals (G : EmG) (ss : List Slo) : escal (G.slot.l ss) = true := by
  rw [G.slot.ok, G.ok_slot, escal, List.all_map, List.all_eq_true]
  intro k _
  rfl
theorem Emb.set {α : Type} (E : Emb α) (xs : List α) (i : Nat) (x : α) : (E.l xs).set i (E.v x) = E.l (xs.set i x) := by rw [E.ok, E.ok, List.map_set]
set_option maxRecDepth 100000 in
set_option maxHeartbeats 4000000 in
theorem law5 (A : Ar) (E : Em) (G : EmG) (H : EmN) (R : EmR) {P : Program} (hP : P = Try.prog) (g : Gra) (hg : g.ok) (k i more o : Int) (kids : List Int) (hkl : kids.length ≤ 9223372036854775807) : TPure P 5 [G.gv g, .int .i64 k, .int .i64 i, .int .i64 more, .int .i64 o, .sl 1 (E.int.l kids)] (.bool true) := by
  have h10 := Great10 A E G hP g hg
  have h11 := wakes11 A E G H R hP
  have h12 := Fits12 A E G H R hP g hg k kids hkl
  obtain ⟨b, hb⟩ : ∃ b, b = greatG g := ⟨_, rfl⟩
  rw [← hb] at h10
  have hlk : A.len (E.int.l kids) = (kids.length : Int) := by rw [A.ok_len, E.int.len]
  obtain ⟨fb, hfb⟩ : ∃ f, f = fitsB g k kids := ⟨_, rfl⟩
  rw [← hfb] at h12
  have hfit : fb = true → checkB g = true ∧ ∃ m : Nat, k = m ∧ ∃ x, g.kinds[m]? = some x ∧ g.kinds.length ≤ 32 ∧ x.slots.length ≤ 8 ∧ ∀ s ∈ x.slots, s.fair := fun h => by
    rw [hfb] at h
    unfold fitsB kindO at h
    split at h
    · rename_i hc
      obtain ⟨c1, c2, c3⟩ := hc
      obtain ⟨x, hx⟩ : ∃ x, g.kinds[k.toNat]? = some x := ⟨_, List.getElem?_eq_getElem (by omega)⟩
      have hcl : g.kinds.length ≤ 32 := by
        have c1 := c1
        unfold checkB at c1
        simp only [Bool.and_eq_true, decide_eq_true_eq] at c1
        exact c1.1.2.1
      exact ⟨c1, k.toNat, by omega, x, hx, hcl, check_fair c1 hx⟩
    · cases h
  have hslots := hg.slots
  obtain ⟨ks, root⟩ := g
  have h14 : ∀ ks', Gra.ok ⟨ks', root⟩ → TPure P 14 [.agg [.sl 3 (G.kind.l ks'), .int .i64 root]] (.int .i64 (errC (checkB ⟨ks', root⟩))) := fun ks' h => Check14 A E G H hP ⟨ks', root⟩ h
  have h12b : ∀ ks' k, Gra.ok ⟨ks', root⟩ → TPure P 12 [.agg [.sl 3 (G.kind.l ks'), .int .i64 root], .int .i64 k, .sl 1 (E.int.l kids)] (.bool (fitsB ⟨ks', root⟩ k kids)) := fun ks' k h => Fits12 A E G H R hP ⟨ks', root⟩ h k kids hkl
  have hwide := fun m i name text ss s hc hx hs d v ho hv ks' hks => wide_ok (ks := ks) (root := root) (m := m) (i := i) (name := name) (text := text) (ss := ss) (s := s) hc hx hs (o := o) (d := d) (v := v) ho hv (ks' := ks') hks
  dsimp only at hfit hslots
  have hkk : A.len (G.kind.l ks) = (ks.length : Int) := by rw [A.ok_len, G.kind.len ks]
  unfold EmG.gv at h10 h12 ⊢
  dsimp only at h10 h12 ⊢
  have pg : Tw.Pur [AV.sl 3 (G.kind.l ks), .int .i64 root] := Pur.mk (by (repeat (first | exact rfl | exact Emb.purL _ _ | assumption | apply pur_cons | apply pur_sl | apply pur_slt | apply pur_agg | apply pur_tup)))
  refine TPure.ofE A T0 (T0_ok hP) (hP ▸ Try.func5) rfl _ rfl (by simp) ?_
  cbv
  refine EW.vs [(12, .bool false), (6, .imm [.sl 3 (G.kind.l ks), .int .i64 root]), (1, .int .i64 k), (2, .int .i64 i), (3, .int .i64 more), (4, .int .i64 o), (5, .sl 1 (E.int.l kids))] [] 147 rfl ?_
  cbv
  refine And.intro pg (And.intro (E.int.Pur _) ?_)
  ((try cbv) <;> (repeat ((with_reducible refine EW.of ?_); cbv)))
  (refine ⟨Ent.of (hP ▸ Try.func10) rfl, ?_⟩; refine TC.pureE h10 ?_; cbv; (repeat (first | exact trivial | refine And.intro (Emb.Pur _ _) ?_ | refine And.intro rfl ?_ | refine And.intro (Pur.mk rfl) ?_ | refine And.intro (Pur.mk (by assumption)) ?_)); ((try cbv) <;> (repeat ((with_reducible refine EW.of ?_); cbv))))
  cases b with
  | true =>
    ((try cbv) <;> (repeat ((with_reducible refine EW.of ?_); cbv)))
    ((try cbv) <;> (repeat ((with_reducible refine EW.of ?_); cbv)))
    (refine ⟨Ent.of (hP ▸ Try.func11) rfl, ?_⟩; refine TC.pureE h11 ?_; cbv; (repeat (first | exact trivial | refine And.intro (Emb.Pur _ _) ?_ | refine And.intro rfl ?_ | refine And.intro (Pur.mk rfl) ?_ | refine And.intro (Pur.mk (by assumption)) ?_)); ((try cbv) <;> (repeat ((with_reducible refine EW.of ?_); cbv))))
  | false =>
    ((try cbv) <;> (repeat ((with_reducible refine EW.of ?_); cbv)))
    refine bsplit (fun h => ?_) (fun h => ?_)
    · have h : 300 < kids.length := (by first | exact lt_t h (by first | rfl | assumption) (by first | rfl | assumption) | exact le_t h (by first | rfl | assumption) (by first | rfl | assumption) | exact eq_t h (by first | rfl | assumption) (by first | rfl | assumption) | exact ne_t h (by first | rfl | assumption) (by first | rfl | assumption) | exact lt_nt h (by first | rfl | assumption) (by first | rfl | assumption) | exact le_nt h (by first | rfl | assumption) (by first | rfl | assumption) | exact ne_nt h (by first | rfl | assumption) (by first | rfl | assumption) | exact seq_t h | exact (sne_t h))
      ((try cbv) <;> (repeat ((with_reducible refine EW.of ?_); cbv)))
      (refine ⟨Ent.of (hP ▸ Try.func11) rfl, ?_⟩; refine TC.pureE h11 ?_; cbv; (repeat (first | exact trivial | refine And.intro (Emb.Pur _ _) ?_ | refine And.intro rfl ?_ | refine And.intro (Pur.mk rfl) ?_ | refine And.intro (Pur.mk (by assumption)) ?_)); ((try cbv) <;> (repeat ((with_reducible refine EW.of ?_); cbv))))
    have h : ¬ (300 < kids.length) := (by first | exact not_lt_f h (by first | rfl | assumption) (by first | rfl | assumption) | exact not_le_f h (by first | rfl | assumption) (by first | rfl | assumption) | exact eq_f h (by first | rfl | assumption) (by first | rfl | assumption) | exact not_ne_f h (by first | rfl | assumption) (by first | rfl | assumption) | exact not_lt_nf h (by first | rfl | assumption) (by first | rfl | assumption) | exact not_le_nf h (by first | rfl | assumption) (by first | rfl | assumption) | exact not_ne_nf h (by first | rfl | assumption) (by first | rfl | assumption))
    ((try cbv) <;> (repeat ((with_reducible refine EW.of ?_); cbv)))
    (refine ⟨Ent.of (hP ▸ Try.func12) rfl, ?_⟩; refine TC.pureE h12 ?_; cbv; (repeat (first | exact trivial | refine And.intro (Emb.Pur _ _) ?_ | refine And.intro rfl ?_ | refine And.intro (Pur.mk rfl) ?_ | refine And.intro (Pur.mk (by assumption)) ?_)); ((try cbv) <;> (repeat ((with_reducible refine EW.of ?_); cbv))))
    cases fb with
    | false =>
      ((try cbv) <;> (repeat ((with_reducible refine EW.of ?_); cbv)))
      ((try cbv) <;> (repeat ((with_reducible refine EW.of ?_); cbv)))
      (refine ⟨Ent.of (hP ▸ Try.func11) rfl, ?_⟩; refine TC.pureE h11 ?_; cbv; (repeat (first | exact trivial | refine And.intro (Emb.Pur _ _) ?_ | refine And.intro rfl ?_ | refine And.intro (Pur.mk rfl) ?_ | refine And.intro (Pur.mk (by assumption)) ?_)); ((try cbv) <;> (repeat ((with_reducible refine EW.of ?_); cbv))))
    | true =>
      obtain ⟨hct, m, hm, x, hx, h32, h8, hfair⟩ := hfit rfl
      have hgx := G.getk hx
      replace hslots := hslots x (List.mem_of_getElem? hx)
      obtain ⟨xn, xt, ss⟩ := x
      dsimp only at hgx hslots hfair h8
      have hsk : A.len (G.slot.l ss) = (ss.length : Int) := by rw [A.ok_len, G.slot.len]
      subst hm
      ((try cbv) <;> (repeat ((with_reducible refine EW.of ?_); cbv)))
      refine bsplit (fun h => ?_) (fun h => ?_)
      · have h : i < 0 := (by first | exact lt_t h (by first | rfl | assumption) (by first | rfl | assumption) | exact le_t h (by first | rfl | assumption) (by first | rfl | assumption) | exact eq_t h (by first | rfl | assumption) (by first | rfl | assumption) | exact ne_t h (by first | rfl | assumption) (by first | rfl | assumption) | exact lt_nt h (by first | rfl | assumption) (by first | rfl | assumption) | exact le_nt h (by first | rfl | assumption) (by first | rfl | assumption) | exact ne_nt h (by first | rfl | assumption) (by first | rfl | assumption) | exact seq_t h | exact (sne_t h))
        ((try cbv) <;> (repeat ((with_reducible refine EW.of ?_); cbv)))
        (refine ⟨Ent.of (hP ▸ Try.func11) rfl, ?_⟩; refine TC.pureE h11 ?_; cbv; (repeat (first | exact trivial | refine And.intro (Emb.Pur _ _) ?_ | refine And.intro rfl ?_ | refine And.intro (Pur.mk rfl) ?_ | refine And.intro (Pur.mk (by assumption)) ?_)); ((try cbv) <;> (repeat ((with_reducible refine EW.of ?_); cbv))))
      have h : ¬ (i < 0) := (by first | exact not_lt_f h (by first | rfl | assumption) (by first | rfl | assumption) | exact not_le_f h (by first | rfl | assumption) (by first | rfl | assumption) | exact eq_f h (by first | rfl | assumption) (by first | rfl | assumption) | exact not_ne_f h (by first | rfl | assumption) (by first | rfl | assumption) | exact not_lt_nf h (by first | rfl | assumption) (by first | rfl | assumption) | exact not_le_nf h (by first | rfl | assumption) (by first | rfl | assumption) | exact not_ne_nf h (by first | rfl | assumption) (by first | rfl | assumption))
      ((try cbv) <;> (repeat ((with_reducible refine EW.of ?_); cbv)))
      obtain ⟨ii, hii⟩ : ∃ n : Nat, i = n := ⟨i.toNat, by omega⟩
      subst hii
      (refine ⟨_, _, rfl, hgx, ?_⟩; cbv; ((try cbv) <;> (repeat ((with_reducible refine EW.of ?_); cbv))))
      refine bsplit (fun h => ?_) (fun h => ?_)
      · have h : ss.length ≤ ii := (by first | exact lt_t h (by first | rfl | assumption) (by first | rfl | assumption) | exact le_t h (by first | rfl | assumption) (by first | rfl | assumption) | exact eq_t h (by first | rfl | assumption) (by first | rfl | assumption) | exact ne_t h (by first | rfl | assumption) (by first | rfl | assumption) | exact lt_nt h (by first | rfl | assumption) (by first | rfl | assumption) | exact le_nt h (by first | rfl | assumption) (by first | rfl | assumption) | exact ne_nt h (by first | rfl | assumption) (by first | rfl | assumption) | exact seq_t h | exact (sne_t h))
        ((try cbv) <;> (repeat ((with_reducible refine EW.of ?_); cbv)))
        (refine ⟨Ent.of (hP ▸ Try.func11) rfl, ?_⟩; refine TC.pureE h11 ?_; cbv; (repeat (first | exact trivial | refine And.intro (Emb.Pur _ _) ?_ | refine And.intro rfl ?_ | refine And.intro (Pur.mk rfl) ?_ | refine And.intro (Pur.mk (by assumption)) ?_)); ((try cbv) <;> (repeat ((with_reducible refine EW.of ?_); cbv))))
      have h : ¬ (ss.length ≤ ii) := (by first | exact not_lt_f h (by first | rfl | assumption) (by first | rfl | assumption) | exact not_le_f h (by first | rfl | assumption) (by first | rfl | assumption) | exact eq_f h (by first | rfl | assumption) (by first | rfl | assumption) | exact not_ne_f h (by first | rfl | assumption) (by first | rfl | assumption) | exact not_lt_nf h (by first | rfl | assumption) (by first | rfl | assumption) | exact not_le_nf h (by first | rfl | assumption) (by first | rfl | assumption) | exact not_ne_nf h (by first | rfl | assumption) (by first | rfl | assumption))
      ((try cbv) <;> (repeat ((with_reducible refine EW.of ?_); cbv)))
      have hiss : ii < ss.length := by omega
      obtain ⟨s, hs⟩ : ∃ s, ss[ii]? = some s := ⟨_, List.getElem?_eq_getElem hiss⟩
      have hgs := G.gets E hs
      have hsf := hfair s (List.mem_of_getElem? hs)
      obtain ⟨sk, sl, sm⟩ := s
      dsimp only at hgs
      obtain ⟨v, hvv⟩ : ∃ v, v = A.mn (A.op .add .i64 sm (A.mn (A.mx more 0) 1000)) 1000 := ⟨_, rfl⟩
      have hv2 : sm ≤ v ∧ v ≤ 1000 := hvv ▸ mn_add A (Int.le_trans hsf.low hsf.mid) hsf.high
      obtain ⟨k0, k1, hkc⟩ : ∃ a b, G.kind.l ks = a :: b := by
        cases ks with
        | nil => simp at hx
        | cons a b => exact ⟨_, _, G.kind.cons a b⟩
      obtain ⟨s0, s1, hsc⟩ : ∃ a b, G.slot.l ss = a :: b := by
        cases ss with
        | nil => simp at hs
        | cons a b => exact ⟨_, _, G.slot.cons a b⟩
      obtain ⟨q1, hq1⟩ : ∃ q, q = ks.length := ⟨_, rfl⟩
      obtain ⟨q2, hq2⟩ : ∃ q, q = ss.length := ⟨_, rfl⟩
      have hkl1 := G.kind.len ks
      have hlsk : A.len (E.int.l sk) = (sk.length : Int) := by rw [A.ok_len, E.int.len]
      have hsk32 : sk.length ≤ 32 := hsf.few
      have hsl1 := G.slot.len ss
      have hks1 : 0 + (k0 :: k1).length = q1 := by rw [← hkc, hkl1, hq1]; omega
      have hss1 : 0 + (s0 :: s1).length = q2 := by rw [← hsc, hsl1, hq2]; omega
      ((try cbv) <;> (repeat ((with_reducible refine EW.of ?_); cbv)))
      refine mcons hkc ?_
      refine ⟨⟨hkc ▸ G.scalk ks⟩, q1, G.kind.l ks, hks1.symm, hkc, Nat.zero_le _, by show q1 * 48 ≤ _; omega, by omega, ?_⟩
      cbv
      ((try cbv) <;> (repeat ((with_reducible refine EW.of ?_); cbv)))
      have hmk : m < q1 := by rw [hq1]; exact (List.getElem?_eq_some_iff.1 hx).1
      refine ⟨m, rfl, hmk, ?_⟩
      cbv
      refine ⟨_, (congrArg (fun j => (G.kind.l ks)[j]?) (z_add m)).trans hgx, ?_⟩
      cbv
      ((try cbv) <;> (repeat ((with_reducible refine EW.of ?_); cbv)))
      refine mcons hsc ?_
      refine ⟨⟨hsc ▸ G.scals ss⟩, 0, rfl, q2, G.slot.l ss, hss1.symm, hsc, Nat.zero_le _, by show q2 * 40 ≤ _; omega, by omega, ?_⟩
      cbv
      ((try cbv) <;> (repeat ((with_reducible refine EW.of ?_); cbv)))
      refine ⟨ii, rfl, by omega, ?_⟩
      cbv
      refine ⟨_, (congrArg (fun j => (G.slot.l ss)[j]?) (z_add ii)).trans hgs, ?_⟩
      cbv
      ((try cbv) <;> (repeat ((with_reducible refine EW.of ?_); cbv)))
      refine bsplit (fun h => ?_) (fun h => ?_)
      · obtain ⟨d0, hd0⟩ : ∃ d, d = true := ⟨_, rfl⟩
        have hd : d0 = false → 0 ≤ o ∧ o < ks.length := fun hf => by rw [hd0] at hf; cases hf
        have hd17 : true = d0 := hd0.symm
        ((try cbv) <;> (repeat ((with_reducible refine EW.of ?_); cbv)))
        obtain ⟨R, hR⟩ : ∃ R, R = insF o sk d0 := ⟨_, rfl⟩
        obtain ⟨S, hS⟩ : ∃ S : LI (Nat × Option (Nat × List Int) × Bool), S = ⟨fun x => [(94, .int .i64 x.1), (93, .int .i64 (A.len (E.int.l sk))), (92, .sl 1 (E.int.l sk)), (16, rowI 5 x.2.1), (17, .bool x.2.2), (15, .ref 4 3 0 0), (14, .ref 2 3 0 0), (13, .ref 0 2 0 0), (12, .bool false), (6, .imm [.sl 3 (G.kind.l ks), .int .i64 root]), (1, .int .i64 m), (2, .int .i64 ii), (3, .int .i64 more), (4, .int .i64 o), (5, .sl 1 (E.int.l kids))], fun x => stI E [some (.box 2 (.agg [.row 1 3 0 q1, .int .i64 root])), some (.arr 3 (G.kind.l ks)), some (.box 3 (.agg [.str xn, .bool xt, .row 3 3 0 q2])), some (.arr 3 (G.slot.l ss)), some (.box 3 (.agg [.sl 1 (E.int.l sk), .int .i64 sl, .int .i64 v]))] x.2.1, fun x => x.1 ≤ sk.length ∧ okI x.2.1 ∧ (outI x.2.1).length ≤ 2 * x.1 ∧ outI x.2.1 ++ insF o (sk.drop x.1) x.2.2 = R, fun x => sk.length - x.1⟩ := ⟨_, rfl⟩
        refine TW.loopM A (T0_ok hP) S _ rfl (0, none, d0) ?_ ?_ ?_
        · rw [hS]; exact ⟨Nat.zero_le _, trivial, Nat.zero_le _, hR.symm⟩
        · rw [hS]
          cbv
          (repeat (first | exact trivial | refine And.intro (Emb.Pur _ _) ?_ | refine And.intro (inc_eq A (by omega)) ?_ | refine And.intro rfl ?_ | refine And.intro pg ?_ | refine And.intro hvv.symm ?_ | refine And.intro hd17 ?_ | refine And.intro hy ?_ | refine And.intro hcut ?_ | refine And.intro hdd.symm ?_ | refine And.intro (G.kind.cut (by omega)) ?_ | refine And.intro (G.slot.cut (by omega)) ?_))
        rintro ⟨j, oo, d⟩ hj l1 L1 e1 e2
        rw [hS] at hj e1 e2
        dsimp only at hj e1 e2
        obtain ⟨hj, hok, hol, hRR⟩ := hj
        subst e1
        obtain ⟨o3, ho3⟩ : ∃ x, x = oo := ⟨_, rfl⟩
        obtain ⟨lo, hlo⟩ : ∃ l, l = outI oo := ⟨_, rfl⟩
        rw [← hlo] at hol hRR
        cases oo with
        | none =>
          dsimp only [stI, rowI, outI, okI] at e2 hok hlo ⊢
          subst e2
          cbv
          ((try cbv) <;> (repeat ((with_reducible refine EW.of ?_); cbv)))
          refine bsplit (fun h => ?_) (fun h => ?_)
          · have h : j < sk.length := lt_nt h rfl hlsk
            obtain ⟨y, hy⟩ : ∃ y, sk[j]? = some y := ⟨_, List.getElem?_eq_getElem h⟩
            have hgy := E.geti hy
            rw [insF_drop hy] at hRR
            ((try cbv) <;> (repeat ((with_reducible refine EW.of ?_); cbv)))
            (refine ⟨_, _, rfl, hgy, ?_⟩; cbv; ((try cbv) <;> (repeat ((with_reducible refine EW.of ?_); cbv))))
            cases d with
            | true =>
              obtain ⟨dd, hdd⟩ : ∃ d, d = true := ⟨_, rfl⟩
              have hnext : lo ++ ([y] ++ insF o (sk.drop (j + 1)) dd) = R := by rw [hdd]; exact hRR
              obtain ⟨l9, hl9⟩ : ∃ d, d = lo ++ [y] := ⟨_, rfl⟩
              obtain ⟨q9, hq9⟩ : ∃ q, q = l9.length := ⟨_, rfl⟩
              have hlen9 : l9.length = lo.length + 1 := by rw [hl9]; simp
              ((try cbv) <;> (repeat ((with_reducible refine EW.of ?_); cbv)))
              first
                | refine ⟨⟨rfl⟩, q9, E.int.l l9, by rw [hq9, hl9, hlo]; first | done | rfl, by rw [hl9, hlo, List.nil_append, E.int.cons, E.int.nil, E.iv]; first | done | rfl, Nat.zero_le _, by omega, by omega, ?_⟩
                | refine ⟨⟨rfl⟩, q9, E.int.l l9, by rw [hq9, hl9, hlo, hok]; simp, by rw [hl9, hlo, E.int.app, E.int.cons, E.int.nil, E.iv, List.take_of_length_le (by rw [E.int.len, hok]; exact Nat.le_refl _)], by rw [E.int.len, hok]; exact Nat.le_refl _, by omega, by omega, ?_⟩
              cbv
              ((try cbv) <;> (repeat ((with_reducible refine EW.of ?_); cbv)))
              refine LM.of (j + 1, some (q9, l9), dd) rfl ?_ ?_ ?_
              · rw [hS]; exact ⟨by show j + 1 ≤ sk.length; omega, hq9, by show l9.length ≤ 2 * (j + 1); omega, by show l9 ++ insF o (sk.drop (j + 1)) dd = R; rw [hl9, List.append_assoc]; exact hnext⟩
              · rw [hS]; show sk.length - (j + 1) < sk.length - j; omega
              · rw [hS]
                cbv
                (repeat (first | exact trivial | refine And.intro (Emb.Pur _ _) ?_ | refine And.intro (inc_eq A (by omega)) ?_ | refine And.intro rfl ?_ | refine And.intro pg ?_ | refine And.intro hvv.symm ?_ | refine And.intro hd17 ?_ | refine And.intro hy ?_ | refine And.intro hcut ?_ | refine And.intro hdd.symm ?_ | refine And.intro (G.kind.cut (by omega)) ?_ | refine And.intro (G.slot.cut (by omega)) ?_))
            | false =>
              rw [insF] at hRR
              ((try cbv) <;> (repeat ((with_reducible refine EW.of ?_); cbv)))
              refine bsplit (fun h2 => ?_) (fun h2 => ?_)
              · have h2 : o ≤ y := le_t h2 rfl rfl
                rw [if_pos h2] at hRR
                obtain ⟨dd, hdd⟩ : ∃ d, d = true := ⟨_, rfl⟩
                ((try cbv) <;> (repeat ((with_reducible refine EW.of ?_); cbv)))
                refine bsplit (fun h3 => ?_) (fun h3 => ?_)
                · have h3 : y ≠ o := ne_t h3 rfl rfl
                  rw [if_neg h3] at hRR
                  have hnext : lo ++ [o] ++ ([y] ++ insF o (sk.drop (j + 1)) dd) = R := by rw [hdd, List.append_assoc]; exact hRR
                  obtain ⟨l9, hl9⟩ : ∃ d, d = lo ++ [o] := ⟨_, rfl⟩
                  obtain ⟨q9, hq9⟩ : ∃ q, q = l9.length := ⟨_, rfl⟩
                  have hlen9 : l9.length = lo.length + 1 := by rw [hl9]; simp
                  obtain ⟨l8, hl8⟩ : ∃ d, d = l9 ++ [y] := ⟨_, rfl⟩
                  obtain ⟨q8, hq8⟩ : ∃ q, q = l8.length := ⟨_, rfl⟩
                  have hlen8 : l8.length = lo.length + 2 := by rw [hl8]; simp [hlen9]
                  ((try cbv) <;> (repeat ((with_reducible refine EW.of ?_); cbv)))
                  first
                    | refine ⟨⟨rfl⟩, q9, E.int.l l9, by rw [hq9, hl9, hlo]; first | done | rfl, by rw [hl9, hlo, List.nil_append, E.int.cons, E.int.nil, E.iv]; first | done | rfl, Nat.zero_le _, by omega, by omega, ?_⟩
                    | refine ⟨⟨rfl⟩, q9, E.int.l l9, by rw [hq9, hl9, hlo, hok]; simp, by rw [hl9, hlo, E.int.app, E.int.cons, E.int.nil, E.iv, List.take_of_length_le (by rw [E.int.len, hok]; exact Nat.le_refl _)], by rw [E.int.len, hok]; exact Nat.le_refl _, by omega, by omega, ?_⟩
                  cbv
                  ((try cbv) <;> (repeat ((with_reducible refine EW.of ?_); cbv)))
                  refine ⟨⟨rfl⟩, q8, E.int.l l8, by rw [hq8, hl8, hq9]; simp, by rw [hl8, E.int.app, E.int.cons, E.int.nil, E.iv, List.take_of_length_le (by rw [E.int.len, hq9]; exact Nat.le_refl _)], by rw [E.int.len, hq9]; exact Nat.le_refl _, by omega, by omega, ?_⟩
                  cbv
                  ((try cbv) <;> (repeat ((with_reducible refine EW.of ?_); cbv)))
                  refine LM.of (j + 1, some (q8, l8), dd) rfl ?_ ?_ ?_
                  · rw [hS]; exact ⟨by show j + 1 ≤ sk.length; omega, hq8, by show l8.length ≤ 2 * (j + 1); omega, by show l8 ++ insF o (sk.drop (j + 1)) dd = R; rw [hl8, hl9, List.append_assoc]; exact hnext⟩
                  · rw [hS]; show sk.length - (j + 1) < sk.length - j; omega
                  · rw [hS]
                    cbv
                    (repeat (first | exact trivial | refine And.intro (Emb.Pur _ _) ?_ | refine And.intro (inc_eq A (by omega)) ?_ | refine And.intro rfl ?_ | refine And.intro pg ?_ | refine And.intro hvv.symm ?_ | refine And.intro hd17 ?_ | refine And.intro hy ?_ | refine And.intro hcut ?_ | refine And.intro hdd.symm ?_ | refine And.intro (G.kind.cut (by omega)) ?_ | refine And.intro (G.slot.cut (by omega)) ?_))
                · have h3 : y = o := ne_f h3 rfl rfl
                  rw [if_pos h3] at hRR
                  have hnext : lo ++ ([y] ++ insF o (sk.drop (j + 1)) dd) = R := by rw [hdd]; exact hRR
                  obtain ⟨l9, hl9⟩ : ∃ d, d = lo ++ [y] := ⟨_, rfl⟩
                  obtain ⟨q9, hq9⟩ : ∃ q, q = l9.length := ⟨_, rfl⟩
                  have hlen9 : l9.length = lo.length + 1 := by rw [hl9]; simp
                  ((try cbv) <;> (repeat ((with_reducible refine EW.of ?_); cbv)))
                  first
                    | refine ⟨⟨rfl⟩, q9, E.int.l l9, by rw [hq9, hl9, hlo]; first | done | rfl, by rw [hl9, hlo, List.nil_append, E.int.cons, E.int.nil, E.iv]; first | done | rfl, Nat.zero_le _, by omega, by omega, ?_⟩
                    | refine ⟨⟨rfl⟩, q9, E.int.l l9, by rw [hq9, hl9, hlo, hok]; simp, by rw [hl9, hlo, E.int.app, E.int.cons, E.int.nil, E.iv, List.take_of_length_le (by rw [E.int.len, hok]; exact Nat.le_refl _)], by rw [E.int.len, hok]; exact Nat.le_refl _, by omega, by omega, ?_⟩
                  cbv
                  ((try cbv) <;> (repeat ((with_reducible refine EW.of ?_); cbv)))
                  refine LM.of (j + 1, some (q9, l9), dd) rfl ?_ ?_ ?_
                  · rw [hS]; exact ⟨by show j + 1 ≤ sk.length; omega, hq9, by show l9.length ≤ 2 * (j + 1); omega, by show l9 ++ insF o (sk.drop (j + 1)) dd = R; rw [hl9, List.append_assoc]; exact hnext⟩
                  · rw [hS]; show sk.length - (j + 1) < sk.length - j; omega
                  · rw [hS]
                    cbv
                    (repeat (first | exact trivial | refine And.intro (Emb.Pur _ _) ?_ | refine And.intro (inc_eq A (by omega)) ?_ | refine And.intro rfl ?_ | refine And.intro pg ?_ | refine And.intro hvv.symm ?_ | refine And.intro hd17 ?_ | refine And.intro hy ?_ | refine And.intro hcut ?_ | refine And.intro hdd.symm ?_ | refine And.intro (G.kind.cut (by omega)) ?_ | refine And.intro (G.slot.cut (by omega)) ?_))
              · have h2 : ¬ o ≤ y := Int.not_le.2 (le_f h2 rfl rfl)
                rw [if_neg h2] at hRR
                obtain ⟨dd, hdd⟩ : ∃ d, d = false := ⟨_, rfl⟩
                have hnext : lo ++ ([y] ++ insF o (sk.drop (j + 1)) dd) = R := by rw [hdd]; exact hRR
                obtain ⟨l9, hl9⟩ : ∃ d, d = lo ++ [y] := ⟨_, rfl⟩
                obtain ⟨q9, hq9⟩ : ∃ q, q = l9.length := ⟨_, rfl⟩
                have hlen9 : l9.length = lo.length + 1 := by rw [hl9]; simp
                ((try cbv) <;> (repeat ((with_reducible refine EW.of ?_); cbv)))
                first
                  | refine ⟨⟨rfl⟩, q9, E.int.l l9, by rw [hq9, hl9, hlo]; first | done | rfl, by rw [hl9, hlo, List.nil_append, E.int.cons, E.int.nil, E.iv]; first | done | rfl, Nat.zero_le _, by omega, by omega, ?_⟩
                  | refine ⟨⟨rfl⟩, q9, E.int.l l9, by rw [hq9, hl9, hlo, hok]; simp, by rw [hl9, hlo, E.int.app, E.int.cons, E.int.nil, E.iv, List.take_of_length_le (by rw [E.int.len, hok]; exact Nat.le_refl _)], by rw [E.int.len, hok]; exact Nat.le_refl _, by omega, by omega, ?_⟩
                cbv
                ((try cbv) <;> (repeat ((with_reducible refine EW.of ?_); cbv)))
                refine LM.of (j + 1, some (q9, l9), dd) rfl ?_ ?_ ?_
                · rw [hS]; exact ⟨by show j + 1 ≤ sk.length; omega, hq9, by show l9.length ≤ 2 * (j + 1); omega, by show l9 ++ insF o (sk.drop (j + 1)) dd = R; rw [hl9, List.append_assoc]; exact hnext⟩
                · rw [hS]; show sk.length - (j + 1) < sk.length - j; omega
                · rw [hS]
                  cbv
                  (repeat (first | exact trivial | refine And.intro (Emb.Pur _ _) ?_ | refine And.intro (inc_eq A (by omega)) ?_ | refine And.intro rfl ?_ | refine And.intro pg ?_ | refine And.intro hvv.symm ?_ | refine And.intro hd17 ?_ | refine And.intro hy ?_ | refine And.intro hcut ?_ | refine And.intro hdd.symm ?_ | refine And.intro (G.kind.cut (by omega)) ?_ | refine And.intro (G.slot.cut (by omega)) ?_))
          · have h : sk.length ≤ j := lt_nf h rfl hlsk
            rw [List.drop_eq_nil_of_le h] at hRR
            cases d with
            | true =>
              rw [insF, List.append_nil] at hRR
              first
                | have hcut : Tw.Cut (E.int.l l) 0 q (E.int.l R) := by rw [← hRR, hlo]; exact E.int.cut hok
                | have hcut : ([] : List AV) = E.int.l R := by rw [← hRR, hlo]; exact E.int.nil.symm
              refine EW.vs [(16, .sl 1 (E.int.l R)), (17, .bool true), (15, .ref 4 3 0 0), (14, .ref 2 3 0 0), (13, .ref 0 2 0 0), (12, .bool false), (6, .imm [.sl 3 (G.kind.l ks), .int .i64 root]), (1, .int .i64 m), (2, .int .i64 ii), (3, .int .i64 more), (4, .int .i64 o), (5, .sl 1 (E.int.l kids))] [some (.box 2 (.agg [.row 1 3 0 q1, .int .i64 root])), some (.arr 3 (G.kind.l ks)), some (.box 3 (.agg [.str xn, .bool xt, .row 3 3 0 q2])), some (.arr 3 (G.slot.l ss)), some (.box 3 (.agg [.sl 1 (E.int.l sk), .int .i64 sl, .int .i64 v]))] 147 rfl ?_
              cbv
              (repeat (first | exact trivial | refine And.intro (Emb.Pur _ _) ?_ | refine And.intro (inc_eq A (by omega)) ?_ | refine And.intro rfl ?_ | refine And.intro pg ?_ | refine And.intro hvv.symm ?_ | refine And.intro hd17 ?_ | refine And.intro hy ?_ | refine And.intro hcut ?_ | refine And.intro hdd.symm ?_ | refine And.intro (G.kind.cut (by omega)) ?_ | refine And.intro (G.slot.cut (by omega)) ?_))
              obtain ⟨ss2, hss2⟩ : ∃ s, s = ss.set ii ⟨R, sl, v⟩ := ⟨_, rfl⟩
              have hset2 : G.slot.l ss2 = (G.slot.l ss).set ii (.agg [.sl 1 (E.int.l R), .int .i64 sl, .int .i64 v]) := by rw [hss2, ← G.slot.set, G.sv E]
              have hss2l : ss2.length = ss.length := by rw [hss2, List.length_set]
              ((try cbv) <;> (repeat ((with_reducible refine EW.of ?_); cbv)))
              refine ⟨ii, rfl, by omega, ?_⟩
              cbv
              refine ⟨_, G.slot.l ss2, (congrArg (fun j => (G.slot.l ss)[j]?) (z_add ii)).trans hgs, hset2.trans (congrArg (fun j => (G.slot.l ss).set j _) (z_add ii).symm), rfl, ?_⟩
              cbv
              refine EW.vs [(14, .ref 2 3 0 0), (13, .ref 0 2 0 0), (12, .bool false), (6, .imm [.sl 3 (G.kind.l ks), .int .i64 root]), (1, .int .i64 m), (2, .int .i64 ii), (3, .int .i64 more), (4, .int .i64 o), (5, .sl 1 (E.int.l kids))] [some (.box 2 (.agg [.row 1 3 0 q1, .int .i64 root])), some (.arr 3 (G.kind.l ks)), some (.box 3 (.agg [.str xn, .bool xt, .sl 3 (G.slot.l ss2)]))] 147 rfl ?_
              cbv
              (repeat (first | exact trivial | refine And.intro (Emb.Pur _ _) ?_ | refine And.intro (inc_eq A (by omega)) ?_ | refine And.intro rfl ?_ | refine And.intro pg ?_ | refine And.intro hvv.symm ?_ | refine And.intro hd17 ?_ | refine And.intro hy ?_ | refine And.intro hcut ?_ | refine And.intro hdd.symm ?_ | refine And.intro (G.kind.cut (by omega)) ?_ | refine And.intro (G.slot.cut (by omega)) ?_))
              obtain ⟨ks2, hks2⟩ : ∃ s, s = ks.set m ⟨xn, xt, ss2⟩ := ⟨_, rfl⟩
              have hset1 : G.kind.l ks2 = (G.kind.l ks).set m (.agg [.str xn, .bool xt, .sl 3 (G.slot.l ss2)]) := by rw [hks2, ← G.kind.set, G.kv]
              have hks2l : ks2.length = ks.length := by rw [hks2, List.length_set]
              have hw2 := hwide m ii xn xt ss ⟨sk, sl, sm⟩ hct hx hs d0 v hd hv2 ks2 (by rw [hks2, hss2, hR])
              have hRl : R.length ≤ 33 := by rw [hR]; have := (insF_len o sk d0).2; omega
              have hg2 : Gra.ok ⟨ks2, root⟩ := ⟨by show ks2.length ≤ _; omega, fun y hy => by
                rw [hks2] at hy
                rcases List.mem_or_eq_of_mem_set hy with hy | rfl
                · exact hg.slots y hy
                · refine ⟨by show ss2.length ≤ _; omega, fun z hz => ?_⟩
                  have hz : z ∈ ss2 := hz
                  rw [hss2] at hz
                  rcases List.mem_or_eq_of_mem_set hz with hz | rfl
                  · exact hslots.2 z hz
                  · show R.length ≤ _
                    omega⟩
              have k14 := h14 ks2 hg2
              rw [hw2.1] at k14
              replace k14 : TPure P 14 [.agg [.sl 3 (G.kind.l ks2), .int .i64 root]] (.int .i64 0) := k14
              have k12 := h12b ks2 m hg2
              rw [hw2.2 kids hfb.symm] at k12
              ((try cbv) <;> (repeat ((with_reducible refine EW.of ?_); cbv)))
              refine ⟨m, rfl, hmk, ?_⟩
              cbv
              refine ⟨_, G.kind.l ks2, (congrArg (fun j => (G.kind.l ks)[j]?) (z_add m)).trans hgx, hset1.trans (congrArg (fun j => (G.kind.l ks).set j _) (z_add m).symm), rfl, ?_⟩
              cbv
              refine EW.vs [(13, .ref 0 2 0 0), (12, .bool false), (6, .imm [.sl 3 (G.kind.l ks), .int .i64 root]), (1, .int .i64 m), (2, .int .i64 ii), (3, .int .i64 more), (4, .int .i64 o), (5, .sl 1 (E.int.l kids))] [some (.box 2 (.agg [.sl 3 (G.kind.l ks2), .int .i64 root]))] 147 rfl ?_
              cbv
              (repeat (first | exact trivial | refine And.intro (Emb.Pur _ _) ?_ | refine And.intro (inc_eq A (by omega)) ?_ | refine And.intro rfl ?_ | refine And.intro pg ?_ | refine And.intro hvv.symm ?_ | refine And.intro hd17 ?_ | refine And.intro hy ?_ | refine And.intro hcut ?_ | refine And.intro hdd.symm ?_ | refine And.intro (G.kind.cut (by omega)) ?_ | refine And.intro (G.slot.cut (by omega)) ?_))
              ((try cbv) <;> (repeat ((with_reducible refine EW.of ?_); cbv)))
              (refine ⟨Ent.of (hP ▸ Try.func14) rfl, ?_⟩; refine TC.pureE k14 ?_; cbv; (repeat (first | exact trivial | refine And.intro (Emb.Pur _ _) ?_ | refine And.intro rfl ?_ | refine And.intro (Pur.mk rfl) ?_ | refine And.intro (Pur.mk (by assumption)) ?_)); ((try cbv) <;> (repeat ((with_reducible refine EW.of ?_); cbv))))
              (first | refine byes (eqT rfl) ?_ | refine byes (beqT rfl) ?_)
              ((try cbv) <;> (repeat ((with_reducible refine EW.of ?_); cbv)))
              (refine ⟨Ent.of (hP ▸ Try.func12) rfl, ?_⟩; refine TC.pureE k12 ?_; cbv; (repeat (first | exact trivial | refine And.intro (Emb.Pur _ _) ?_ | refine And.intro rfl ?_ | refine And.intro (Pur.mk rfl) ?_ | refine And.intro (Pur.mk (by assumption)) ?_)); ((try cbv) <;> (repeat ((with_reducible refine EW.of ?_); cbv))))
              ((try cbv) <;> (repeat ((with_reducible refine EW.of ?_); cbv)))
              (refine ⟨Ent.of (hP ▸ Try.func11) rfl, ?_⟩; refine TC.pureE h11 ?_; cbv; (repeat (first | exact trivial | refine And.intro (Emb.Pur _ _) ?_ | refine And.intro rfl ?_ | refine And.intro (Pur.mk rfl) ?_ | refine And.intro (Pur.mk (by assumption)) ?_)); ((try cbv) <;> (repeat ((with_reducible refine EW.of ?_); cbv))))
            | false =>
              rw [insF] at hRR
              obtain ⟨y, hy⟩ : ∃ y, y = o := ⟨_, rfl⟩
              obtain ⟨l9, hl9⟩ : ∃ d, d = lo ++ [y] := ⟨_, rfl⟩
              obtain ⟨q9, hq9⟩ : ∃ q, q = l9.length := ⟨_, rfl⟩
              have hlen9 : l9.length = lo.length + 1 := by rw [hl9]; simp
              have hcut : Tw.Cut (E.int.l l9) 0 q9 (E.int.l R) := by rw [← hRR, ← hy, ← hl9]; exact E.int.cut hq9
              rw [← hy]
              ((try cbv) <;> (repeat ((with_reducible refine EW.of ?_); cbv)))
              first
                | refine ⟨⟨rfl⟩, q9, E.int.l l9, by rw [hq9, hl9, hlo]; first | done | rfl, by rw [hl9, hlo, List.nil_append, E.int.cons, E.int.nil, E.iv]; first | done | rfl, Nat.zero_le _, by omega, by omega, ?_⟩
                | refine ⟨⟨rfl⟩, q9, E.int.l l9, by rw [hq9, hl9, hlo, hok]; simp, by rw [hl9, hlo, E.int.app, E.int.cons, E.int.nil, E.iv, List.take_of_length_le (by rw [E.int.len, hok]; exact Nat.le_refl _)], by rw [E.int.len, hok]; exact Nat.le_refl _, by omega, by omega, ?_⟩
              cbv
              refine EW.vs [(16, .sl 1 (E.int.l R)), (17, .bool false), (15, .ref 4 3 0 0), (14, .ref 2 3 0 0), (13, .ref 0 2 0 0), (12, .bool false), (6, .imm [.sl 3 (G.kind.l ks), .int .i64 root]), (1, .int .i64 m), (2, .int .i64 ii), (3, .int .i64 more), (4, .int .i64 o), (5, .sl 1 (E.int.l kids))] [some (.box 2 (.agg [.row 1 3 0 q1, .int .i64 root])), some (.arr 3 (G.kind.l ks)), some (.box 3 (.agg [.str xn, .bool xt, .row 3 3 0 q2])), some (.arr 3 (G.slot.l ss)), some (.box 3 (.agg [.sl 1 (E.int.l sk), .int .i64 sl, .int .i64 v]))] 147 rfl ?_
              cbv
              (repeat (first | exact trivial | refine And.intro (Emb.Pur _ _) ?_ | refine And.intro (inc_eq A (by omega)) ?_ | refine And.intro rfl ?_ | refine And.intro pg ?_ | refine And.intro hvv.symm ?_ | refine And.intro hd17 ?_ | refine And.intro hy ?_ | refine And.intro hcut ?_ | refine And.intro hdd.symm ?_ | refine And.intro (G.kind.cut (by omega)) ?_ | refine And.intro (G.slot.cut (by omega)) ?_))
              obtain ⟨ss2, hss2⟩ : ∃ s, s = ss.set ii ⟨R, sl, v⟩ := ⟨_, rfl⟩
              have hset2 : G.slot.l ss2 = (G.slot.l ss).set ii (.agg [.sl 1 (E.int.l R), .int .i64 sl, .int .i64 v]) := by rw [hss2, ← G.slot.set, G.sv E]
              have hss2l : ss2.length = ss.length := by rw [hss2, List.length_set]
              ((try cbv) <;> (repeat ((with_reducible refine EW.of ?_); cbv)))
              refine ⟨ii, rfl, by omega, ?_⟩
              cbv
              refine ⟨_, G.slot.l ss2, (congrArg (fun j => (G.slot.l ss)[j]?) (z_add ii)).trans hgs, hset2.trans (congrArg (fun j => (G.slot.l ss).set j _) (z_add ii).symm), rfl, ?_⟩
              cbv
              refine EW.vs [(14, .ref 2 3 0 0), (13, .ref 0 2 0 0), (12, .bool false), (6, .imm [.sl 3 (G.kind.l ks), .int .i64 root]), (1, .int .i64 m), (2, .int .i64 ii), (3, .int .i64 more), (4, .int .i64 o), (5, .sl 1 (E.int.l kids))] [some (.box 2 (.agg [.row 1 3 0 q1, .int .i64 root])), some (.arr 3 (G.kind.l ks)), some (.box 3 (.agg [.str xn, .bool xt, .sl 3 (G.slot.l ss2)]))] 147 rfl ?_
              cbv
              (repeat (first | exact trivial | refine And.intro (Emb.Pur _ _) ?_ | refine And.intro (inc_eq A (by omega)) ?_ | refine And.intro rfl ?_ | refine And.intro pg ?_ | refine And.intro hvv.symm ?_ | refine And.intro hd17 ?_ | refine And.intro hy ?_ | refine And.intro hcut ?_ | refine And.intro hdd.symm ?_ | refine And.intro (G.kind.cut (by omega)) ?_ | refine And.intro (G.slot.cut (by omega)) ?_))
              obtain ⟨ks2, hks2⟩ : ∃ s, s = ks.set m ⟨xn, xt, ss2⟩ := ⟨_, rfl⟩
              have hset1 : G.kind.l ks2 = (G.kind.l ks).set m (.agg [.str xn, .bool xt, .sl 3 (G.slot.l ss2)]) := by rw [hks2, ← G.kind.set, G.kv]
              have hks2l : ks2.length = ks.length := by rw [hks2, List.length_set]
              have hw2 := hwide m ii xn xt ss ⟨sk, sl, sm⟩ hct hx hs d0 v hd hv2 ks2 (by rw [hks2, hss2, hR])
              have hRl : R.length ≤ 33 := by rw [hR]; have := (insF_len o sk d0).2; omega
              have hg2 : Gra.ok ⟨ks2, root⟩ := ⟨by show ks2.length ≤ _; omega, fun y hy => by
                rw [hks2] at hy
                rcases List.mem_or_eq_of_mem_set hy with hy | rfl
                · exact hg.slots y hy
                · refine ⟨by show ss2.length ≤ _; omega, fun z hz => ?_⟩
                  have hz : z ∈ ss2 := hz
                  rw [hss2] at hz
                  rcases List.mem_or_eq_of_mem_set hz with hz | rfl
                  · exact hslots.2 z hz
                  · show R.length ≤ _
                    omega⟩
              have k14 := h14 ks2 hg2
              rw [hw2.1] at k14
              replace k14 : TPure P 14 [.agg [.sl 3 (G.kind.l ks2), .int .i64 root]] (.int .i64 0) := k14
              have k12 := h12b ks2 m hg2
              rw [hw2.2 kids hfb.symm] at k12
              ((try cbv) <;> (repeat ((with_reducible refine EW.of ?_); cbv)))
              refine ⟨m, rfl, hmk, ?_⟩
              cbv
              refine ⟨_, G.kind.l ks2, (congrArg (fun j => (G.kind.l ks)[j]?) (z_add m)).trans hgx, hset1.trans (congrArg (fun j => (G.kind.l ks).set j _) (z_add m).symm), rfl, ?_⟩
              cbv
              refine EW.vs [(13, .ref 0 2 0 0), (12, .bool false), (6, .imm [.sl 3 (G.kind.l ks), .int .i64 root]), (1, .int .i64 m), (2, .int .i64 ii), (3, .int .i64 more), (4, .int .i64 o), (5, .sl 1 (E.int.l kids))] [some (.box 2 (.agg [.sl 3 (G.kind.l ks2), .int .i64 root]))] 147 rfl ?_
              cbv
              (repeat (first | exact trivial | refine And.intro (Emb.Pur _ _) ?_ | refine And.intro (inc_eq A (by omega)) ?_ | refine And.intro rfl ?_ | refine And.intro pg ?_ | refine And.intro hvv.symm ?_ | refine And.intro hd17 ?_ | refine And.intro hy ?_ | refine And.intro hcut ?_ | refine And.intro hdd.symm ?_ | refine And.intro (G.kind.cut (by omega)) ?_ | refine And.intro (G.slot.cut (by omega)) ?_))
              ((try cbv) <;> (repeat ((with_reducible refine EW.of ?_); cbv)))
              (refine ⟨Ent.of (hP ▸ Try.func14) rfl, ?_⟩; refine TC.pureE k14 ?_; cbv; (repeat (first | exact trivial | refine And.intro (Emb.Pur _ _) ?_ | refine And.intro rfl ?_ | refine And.intro (Pur.mk rfl) ?_ | refine And.intro (Pur.mk (by assumption)) ?_)); ((try cbv) <;> (repeat ((with_reducible refine EW.of ?_); cbv))))
              (first | refine byes (eqT rfl) ?_ | refine byes (beqT rfl) ?_)
              ((try cbv) <;> (repeat ((with_reducible refine EW.of ?_); cbv)))
              (refine ⟨Ent.of (hP ▸ Try.func12) rfl, ?_⟩; refine TC.pureE k12 ?_; cbv; (repeat (first | exact trivial | refine And.intro (Emb.Pur _ _) ?_ | refine And.intro rfl ?_ | refine And.intro (Pur.mk rfl) ?_ | refine And.intro (Pur.mk (by assumption)) ?_)); ((try cbv) <;> (repeat ((with_reducible refine EW.of ?_); cbv))))
              ((try cbv) <;> (repeat ((with_reducible refine EW.of ?_); cbv)))
              (refine ⟨Ent.of (hP ▸ Try.func11) rfl, ?_⟩; refine TC.pureE h11 ?_; cbv; (repeat (first | exact trivial | refine And.intro (Emb.Pur _ _) ?_ | refine And.intro rfl ?_ | refine And.intro (Pur.mk rfl) ?_ | refine And.intro (Pur.mk (by assumption)) ?_)); ((try cbv) <;> (repeat ((with_reducible refine EW.of ?_); cbv))))
        | some x =>
          obtain ⟨q, l⟩ := x
          dsimp only [stI, rowI, outI, okI] at e2 hok hlo ⊢
          have hq64 : q ≤ 64 := by rw [hok, ← hlo]; omega
          subst e2
          cbv
          ((try cbv) <;> (repeat ((with_reducible refine EW.of ?_); cbv)))
          refine bsplit (fun h => ?_) (fun h => ?_)
          · have h : j < sk.length := lt_nt h rfl hlsk
            obtain ⟨y, hy⟩ : ∃ y, sk[j]? = some y := ⟨_, List.getElem?_eq_getElem h⟩
            have hgy := E.geti hy
            rw [insF_drop hy] at hRR
            ((try cbv) <;> (repeat ((with_reducible refine EW.of ?_); cbv)))
            (refine ⟨_, _, rfl, hgy, ?_⟩; cbv; ((try cbv) <;> (repeat ((with_reducible refine EW.of ?_); cbv))))
            cases d with
            | true =>
              obtain ⟨dd, hdd⟩ : ∃ d, d = true := ⟨_, rfl⟩
              have hnext : lo ++ ([y] ++ insF o (sk.drop (j + 1)) dd) = R := by rw [hdd]; exact hRR
              obtain ⟨l9, hl9⟩ : ∃ d, d = lo ++ [y] := ⟨_, rfl⟩
              obtain ⟨q9, hq9⟩ : ∃ q, q = l9.length := ⟨_, rfl⟩
              have hlen9 : l9.length = lo.length + 1 := by rw [hl9]; simp
              ((try cbv) <;> (repeat ((with_reducible refine EW.of ?_); cbv)))
              first
                | refine ⟨⟨rfl⟩, q9, E.int.l l9, by rw [hq9, hl9, hlo]; first | done | rfl, by rw [hl9, hlo, List.nil_append, E.int.cons, E.int.nil, E.iv]; first | done | rfl, Nat.zero_le _, by omega, by omega, ?_⟩
                | refine ⟨⟨rfl⟩, q9, E.int.l l9, by rw [hq9, hl9, hlo, hok]; simp, by rw [hl9, hlo, E.int.app, E.int.cons, E.int.nil, E.iv, List.take_of_length_le (by rw [E.int.len, hok]; exact Nat.le_refl _)], by rw [E.int.len, hok]; exact Nat.le_refl _, by omega, by omega, ?_⟩
              cbv
              ((try cbv) <;> (repeat ((with_reducible refine EW.of ?_); cbv)))
              refine LM.of (j + 1, some (q9, l9), dd) rfl ?_ ?_ ?_
              · rw [hS]; exact ⟨by show j + 1 ≤ sk.length; omega, hq9, by show l9.length ≤ 2 * (j + 1); omega, by show l9 ++ insF o (sk.drop (j + 1)) dd = R; rw [hl9, List.append_assoc]; exact hnext⟩
              · rw [hS]; show sk.length - (j + 1) < sk.length - j; omega
              · rw [hS]
                cbv
                (repeat (first | exact trivial | refine And.intro (Emb.Pur _ _) ?_ | refine And.intro (inc_eq A (by omega)) ?_ | refine And.intro rfl ?_ | refine And.intro pg ?_ | refine And.intro hvv.symm ?_ | refine And.intro hd17 ?_ | refine And.intro hy ?_ | refine And.intro hcut ?_ | refine And.intro hdd.symm ?_ | refine And.intro (G.kind.cut (by omega)) ?_ | refine And.intro (G.slot.cut (by omega)) ?_))
            | false =>
              rw [insF] at hRR
              ((try cbv) <;> (repeat ((with_reducible refine EW.of ?_); cbv)))
              refine bsplit (fun h2 => ?_) (fun h2 => ?_)
              · have h2 : o ≤ y := le_t h2 rfl rfl
                rw [if_pos h2] at hRR
                obtain ⟨dd, hdd⟩ : ∃ d, d = true := ⟨_, rfl⟩
                ((try cbv) <;> (repeat ((with_reducible refine EW.of ?_); cbv)))
                refine bsplit (fun h3 => ?_) (fun h3 => ?_)
                · have h3 : y ≠ o := ne_t h3 rfl rfl
                  rw [if_neg h3] at hRR
                  have hnext : lo ++ [o] ++ ([y] ++ insF o (sk.drop (j + 1)) dd) = R := by rw [hdd, List.append_assoc]; exact hRR
                  obtain ⟨l9, hl9⟩ : ∃ d, d = lo ++ [o] := ⟨_, rfl⟩
                  obtain ⟨q9, hq9⟩ : ∃ q, q = l9.length := ⟨_, rfl⟩
                  have hlen9 : l9.length = lo.length + 1 := by rw [hl9]; simp
                  obtain ⟨l8, hl8⟩ : ∃ d, d = l9 ++ [y] := ⟨_, rfl⟩
                  obtain ⟨q8, hq8⟩ : ∃ q, q = l8.length := ⟨_, rfl⟩
                  have hlen8 : l8.length = lo.length + 2 := by rw [hl8]; simp [hlen9]
                  ((try cbv) <;> (repeat ((with_reducible refine EW.of ?_); cbv)))
                  first
                    | refine ⟨⟨rfl⟩, q9, E.int.l l9, by rw [hq9, hl9, hlo]; first | done | rfl, by rw [hl9, hlo, List.nil_append, E.int.cons, E.int.nil, E.iv]; first | done | rfl, Nat.zero_le _, by omega, by omega, ?_⟩
                    | refine ⟨⟨rfl⟩, q9, E.int.l l9, by rw [hq9, hl9, hlo, hok]; simp, by rw [hl9, hlo, E.int.app, E.int.cons, E.int.nil, E.iv, List.take_of_length_le (by rw [E.int.len, hok]; exact Nat.le_refl _)], by rw [E.int.len, hok]; exact Nat.le_refl _, by omega, by omega, ?_⟩
                  cbv
                  ((try cbv) <;> (repeat ((with_reducible refine EW.of ?_); cbv)))
                  refine ⟨⟨rfl⟩, q8, E.int.l l8, by rw [hq8, hl8, hq9]; simp, by rw [hl8, E.int.app, E.int.cons, E.int.nil, E.iv, List.take_of_length_le (by rw [E.int.len, hq9]; exact Nat.le_refl _)], by rw [E.int.len, hq9]; exact Nat.le_refl _, by omega, by omega, ?_⟩
                  cbv
                  ((try cbv) <;> (repeat ((with_reducible refine EW.of ?_); cbv)))
                  refine LM.of (j + 1, some (q8, l8), dd) rfl ?_ ?_ ?_
                  · rw [hS]; exact ⟨by show j + 1 ≤ sk.length; omega, hq8, by show l8.length ≤ 2 * (j + 1); omega, by show l8 ++ insF o (sk.drop (j + 1)) dd = R; rw [hl8, hl9, List.append_assoc]; exact hnext⟩
                  · rw [hS]; show sk.length - (j + 1) < sk.length - j; omega
                  · rw [hS]
                    cbv
                    (repeat (first | exact trivial | refine And.intro (Emb.Pur _ _) ?_ | refine And.intro (inc_eq A (by omega)) ?_ | refine And.intro rfl ?_ | refine And.intro pg ?_ | refine And.intro hvv.symm ?_ | refine And.intro hd17 ?_ | refine And.intro hy ?_ | refine And.intro hcut ?_ | refine And.intro hdd.symm ?_ | refine And.intro (G.kind.cut (by omega)) ?_ | refine And.intro (G.slot.cut (by omega)) ?_))
                · have h3 : y = o := ne_f h3 rfl rfl
                  rw [if_pos h3] at hRR
                  have hnext : lo ++ ([y] ++ insF o (sk.drop (j + 1)) dd) = R := by rw [hdd]; exact hRR
                  obtain ⟨l9, hl9⟩ : ∃ d, d = lo ++ [y] := ⟨_, rfl⟩
                  obtain ⟨q9, hq9⟩ : ∃ q, q = l9.length := ⟨_, rfl⟩
                  have hlen9 : l9.length = lo.length + 1 := by rw [hl9]; simp
                  ((try cbv) <;> (repeat ((with_reducible refine EW.of ?_); cbv)))
                  first
                    | refine ⟨⟨rfl⟩, q9, E.int.l l9, by rw [hq9, hl9, hlo]; first | done | rfl, by rw [hl9, hlo, List.nil_append, E.int.cons, E.int.nil, E.iv]; first | done | rfl, Nat.zero_le _, by omega, by omega, ?_⟩
                    | refine ⟨⟨rfl⟩, q9, E.int.l l9, by rw [hq9, hl9, hlo, hok]; simp, by rw [hl9, hlo, E.int.app, E.int.cons, E.int.nil, E.iv, List.take_of_length_le (by rw [E.int.len, hok]; exact Nat.le_refl _)], by rw [E.int.len, hok]; exact Nat.le_refl _, by omega, by omega, ?_⟩
                  cbv
                  ((try cbv) <;> (repeat ((with_reducible refine EW.of ?_); cbv)))
                  refine LM.of (j + 1, some (q9, l9), dd) rfl ?_ ?_ ?_
                  · rw [hS]; exact ⟨by show j + 1 ≤ sk.length; omega, hq9, by show l9.length ≤ 2 * (j + 1); omega, by show l9 ++ insF o (sk.drop (j + 1)) dd = R; rw [hl9, List.append_assoc]; exact hnext⟩
                  · rw [hS]; show sk.length - (j + 1) < sk.length - j; omega
                  · rw [hS]
                    cbv
                    (repeat (first | exact trivial | refine And.intro (Emb.Pur _ _) ?_ | refine And.intro (inc_eq A (by omega)) ?_ | refine And.intro rfl ?_ | refine And.intro pg ?_ | refine And.intro hvv.symm ?_ | refine And.intro hd17 ?_ | refine And.intro hy ?_ | refine And.intro hcut ?_ | refine And.intro hdd.symm ?_ | refine And.intro (G.kind.cut (by omega)) ?_ | refine And.intro (G.slot.cut (by omega)) ?_))
              · have h2 : ¬ o ≤ y := Int.not_le.2 (le_f h2 rfl rfl)
                rw [if_neg h2] at hRR
                obtain ⟨dd, hdd⟩ : ∃ d, d = false := ⟨_, rfl⟩
                have hnext : lo ++ ([y] ++ insF o (sk.drop (j + 1)) dd) = R := by rw [hdd]; exact hRR
                obtain ⟨l9, hl9⟩ : ∃ d, d = lo ++ [y] := ⟨_, rfl⟩
                obtain ⟨q9, hq9⟩ : ∃ q, q = l9.length := ⟨_, rfl⟩
                have hlen9 : l9.length = lo.length + 1 := by rw [hl9]; simp
                ((try cbv) <;> (repeat ((with_reducible refine EW.of ?_); cbv)))
                first
                  | refine ⟨⟨rfl⟩, q9, E.int.l l9, by rw [hq9, hl9, hlo]; first | done | rfl, by rw [hl9, hlo, List.nil_append, E.int.cons, E.int.nil, E.iv]; first | done | rfl, Nat.zero_le _, by omega, by omega, ?_⟩
                  | refine ⟨⟨rfl⟩, q9, E.int.l l9, by rw [hq9, hl9, hlo, hok]; simp, by rw [hl9, hlo, E.int.app, E.int.cons, E.int.nil, E.iv, List.take_of_length_le (by rw [E.int.len, hok]; exact Nat.le_refl _)], by rw [E.int.len, hok]; exact Nat.le_refl _, by omega, by omega, ?_⟩
                cbv
                ((try cbv) <;> (repeat ((with_reducible refine EW.of ?_); cbv)))
                refine LM.of (j + 1, some (q9, l9), dd) rfl ?_ ?_ ?_
                · rw [hS]; exact ⟨by show j + 1 ≤ sk.length; omega, hq9, by show l9.length ≤ 2 * (j + 1); omega, by show l9 ++ insF o (sk.drop (j + 1)) dd = R; rw [hl9, List.append_assoc]; exact hnext⟩
                · rw [hS]; show sk.length - (j + 1) < sk.length - j; omega
                · rw [hS]
                  cbv
                  (repeat (first | exact trivial | refine And.intro (Emb.Pur _ _) ?_ | refine And.intro (inc_eq A (by omega)) ?_ | refine And.intro rfl ?_ | refine And.intro pg ?_ | refine And.intro hvv.symm ?_ | refine And.intro hd17 ?_ | refine And.intro hy ?_ | refine And.intro hcut ?_ | refine And.intro hdd.symm ?_ | refine And.intro (G.kind.cut (by omega)) ?_ | refine And.intro (G.slot.cut (by omega)) ?_))
          · have h : sk.length ≤ j := lt_nf h rfl hlsk
            rw [List.drop_eq_nil_of_le h] at hRR
            cases d with
            | true =>
              rw [insF, List.append_nil] at hRR
              first
                | have hcut : Tw.Cut (E.int.l l) 0 q (E.int.l R) := by rw [← hRR, hlo]; exact E.int.cut hok
                | have hcut : ([] : List AV) = E.int.l R := by rw [← hRR, hlo]; exact E.int.nil.symm
              refine EW.vs [(16, .sl 1 (E.int.l R)), (17, .bool true), (15, .ref 4 3 0 0), (14, .ref 2 3 0 0), (13, .ref 0 2 0 0), (12, .bool false), (6, .imm [.sl 3 (G.kind.l ks), .int .i64 root]), (1, .int .i64 m), (2, .int .i64 ii), (3, .int .i64 more), (4, .int .i64 o), (5, .sl 1 (E.int.l kids))] [some (.box 2 (.agg [.row 1 3 0 q1, .int .i64 root])), some (.arr 3 (G.kind.l ks)), some (.box 3 (.agg [.str xn, .bool xt, .row 3 3 0 q2])), some (.arr 3 (G.slot.l ss)), some (.box 3 (.agg [.sl 1 (E.int.l sk), .int .i64 sl, .int .i64 v]))] 147 rfl ?_
              cbv
              (repeat (first | exact trivial | refine And.intro (Emb.Pur _ _) ?_ | refine And.intro (inc_eq A (by omega)) ?_ | refine And.intro rfl ?_ | refine And.intro pg ?_ | refine And.intro hvv.symm ?_ | refine And.intro hd17 ?_ | refine And.intro hy ?_ | refine And.intro hcut ?_ | refine And.intro hdd.symm ?_ | refine And.intro (G.kind.cut (by omega)) ?_ | refine And.intro (G.slot.cut (by omega)) ?_))
              obtain ⟨ss2, hss2⟩ : ∃ s, s = ss.set ii ⟨R, sl, v⟩ := ⟨_, rfl⟩
              have hset2 : G.slot.l ss2 = (G.slot.l ss).set ii (.agg [.sl 1 (E.int.l R), .int .i64 sl, .int .i64 v]) := by rw [hss2, ← G.slot.set, G.sv E]
              have hss2l : ss2.length = ss.length := by rw [hss2, List.length_set]
              ((try cbv) <;> (repeat ((with_reducible refine EW.of ?_); cbv)))
              refine ⟨ii, rfl, by omega, ?_⟩
              cbv
              refine ⟨_, G.slot.l ss2, (congrArg (fun j => (G.slot.l ss)[j]?) (z_add ii)).trans hgs, hset2.trans (congrArg (fun j => (G.slot.l ss).set j _) (z_add ii).symm), rfl, ?_⟩
              cbv
              refine EW.vs [(14, .ref 2 3 0 0), (13, .ref 0 2 0 0), (12, .bool false), (6, .imm [.sl 3 (G.kind.l ks), .int .i64 root]), (1, .int .i64 m), (2, .int .i64 ii), (3, .int .i64 more), (4, .int .i64 o), (5, .sl 1 (E.int.l kids))] [some (.box 2 (.agg [.row 1 3 0 q1, .int .i64 root])), some (.arr 3 (G.kind.l ks)), some (.box 3 (.agg [.str xn, .bool xt, .sl 3 (G.slot.l ss2)]))] 147 rfl ?_
              cbv
              (repeat (first | exact trivial | refine And.intro (Emb.Pur _ _) ?_ | refine And.intro (inc_eq A (by omega)) ?_ | refine And.intro rfl ?_ | refine And.intro pg ?_ | refine And.intro hvv.symm ?_ | refine And.intro hd17 ?_ | refine And.intro hy ?_ | refine And.intro hcut ?_ | refine And.intro hdd.symm ?_ | refine And.intro (G.kind.cut (by omega)) ?_ | refine And.intro (G.slot.cut (by omega)) ?_))
              obtain ⟨ks2, hks2⟩ : ∃ s, s = ks.set m ⟨xn, xt, ss2⟩ := ⟨_, rfl⟩
              have hset1 : G.kind.l ks2 = (G.kind.l ks).set m (.agg [.str xn, .bool xt, .sl 3 (G.slot.l ss2)]) := by rw [hks2, ← G.kind.set, G.kv]
              have hks2l : ks2.length = ks.length := by rw [hks2, List.length_set]
              have hw2 := hwide m ii xn xt ss ⟨sk, sl, sm⟩ hct hx hs d0 v hd hv2 ks2 (by rw [hks2, hss2, hR])
              have hRl : R.length ≤ 33 := by rw [hR]; have := (insF_len o sk d0).2; omega
              have hg2 : Gra.ok ⟨ks2, root⟩ := ⟨by show ks2.length ≤ _; omega, fun y hy => by
                rw [hks2] at hy
                rcases List.mem_or_eq_of_mem_set hy with hy | rfl
                · exact hg.slots y hy
                · refine ⟨by show ss2.length ≤ _; omega, fun z hz => ?_⟩
                  have hz : z ∈ ss2 := hz
                  rw [hss2] at hz
                  rcases List.mem_or_eq_of_mem_set hz with hz | rfl
                  · exact hslots.2 z hz
                  · show R.length ≤ _
                    omega⟩
              have k14 := h14 ks2 hg2
              rw [hw2.1] at k14
              replace k14 : TPure P 14 [.agg [.sl 3 (G.kind.l ks2), .int .i64 root]] (.int .i64 0) := k14
              have k12 := h12b ks2 m hg2
              rw [hw2.2 kids hfb.symm] at k12
              ((try cbv) <;> (repeat ((with_reducible refine EW.of ?_); cbv)))
              refine ⟨m, rfl, hmk, ?_⟩
              cbv
              refine ⟨_, G.kind.l ks2, (congrArg (fun j => (G.kind.l ks)[j]?) (z_add m)).trans hgx, hset1.trans (congrArg (fun j => (G.kind.l ks).set j _) (z_add m).symm), rfl, ?_⟩
              cbv
              refine EW.vs [(13, .ref 0 2 0 0), (12, .bool false), (6, .imm [.sl 3 (G.kind.l ks), .int .i64 root]), (1, .int .i64 m), (2, .int .i64 ii), (3, .int .i64 more), (4, .int .i64 o), (5, .sl 1 (E.int.l kids))] [some (.box 2 (.agg [.sl 3 (G.kind.l ks2), .int .i64 root]))] 147 rfl ?_
              cbv
              (repeat (first | exact trivial | refine And.intro (Emb.Pur _ _) ?_ | refine And.intro (inc_eq A (by omega)) ?_ | refine And.intro rfl ?_ | refine And.intro pg ?_ | refine And.intro hvv.symm ?_ | refine And.intro hd17 ?_ | refine And.intro hy ?_ | refine And.intro hcut ?_ | refine And.intro hdd.symm ?_ | refine And.intro (G.kind.cut (by omega)) ?_ | refine And.intro (G.slot.cut (by omega)) ?_))
              ((try cbv) <;> (repeat ((with_reducible refine EW.of ?_); cbv)))
              (refine ⟨Ent.of (hP ▸ Try.func14) rfl, ?_⟩; refine TC.pureE k14 ?_; cbv; (repeat (first | exact trivial | refine And.intro (Emb.Pur _ _) ?_ | refine And.intro rfl ?_ | refine And.intro (Pur.mk rfl) ?_ | refine And.intro (Pur.mk (by assumption)) ?_)); ((try cbv) <;> (repeat ((with_reducible refine EW.of ?_); cbv))))
              (first | refine byes (eqT rfl) ?_ | refine byes (beqT rfl) ?_)
              ((try cbv) <;> (repeat ((with_reducible refine EW.of ?_); cbv)))
              (refine ⟨Ent.of (hP ▸ Try.func12) rfl, ?_⟩; refine TC.pureE k12 ?_; cbv; (repeat (first | exact trivial | refine And.intro (Emb.Pur _ _) ?_ | refine And.intro rfl ?_ | refine And.intro (Pur.mk rfl) ?_ | refine And.intro (Pur.mk (by assumption)) ?_)); ((try cbv) <;> (repeat ((with_reducible refine EW.of ?_); cbv))))
              ((try cbv) <;> (repeat ((with_reducible refine EW.of ?_); cbv)))
              (refine ⟨Ent.of (hP ▸ Try.func11) rfl, ?_⟩; refine TC.pureE h11 ?_; cbv; (repeat (first | exact trivial | refine And.intro (Emb.Pur _ _) ?_ | refine And.intro rfl ?_ | refine And.intro (Pur.mk rfl) ?_ | refine And.intro (Pur.mk (by assumption)) ?_)); ((try cbv) <;> (repeat ((with_reducible refine EW.of ?_); cbv))))
            | false =>
              rw [insF] at hRR
              obtain ⟨y, hy⟩ : ∃ y, y = o := ⟨_, rfl⟩
              obtain ⟨l9, hl9⟩ : ∃ d, d = lo ++ [y] := ⟨_, rfl⟩
              obtain ⟨q9, hq9⟩ : ∃ q, q = l9.length := ⟨_, rfl⟩
              have hlen9 : l9.length = lo.length + 1 := by rw [hl9]; simp
              have hcut : Tw.Cut (E.int.l l9) 0 q9 (E.int.l R) := by rw [← hRR, ← hy, ← hl9]; exact E.int.cut hq9
              rw [← hy]
              ((try cbv) <;> (repeat ((with_reducible refine EW.of ?_); cbv)))
              first
                | refine ⟨⟨rfl⟩, q9, E.int.l l9, by rw [hq9, hl9, hlo]; first | done | rfl, by rw [hl9, hlo, List.nil_append, E.int.cons, E.int.nil, E.iv]; first | done | rfl, Nat.zero_le _, by omega, by omega, ?_⟩
                | refine ⟨⟨rfl⟩, q9, E.int.l l9, by rw [hq9, hl9, hlo, hok]; simp, by rw [hl9, hlo, E.int.app, E.int.cons, E.int.nil, E.iv, List.take_of_length_le (by rw [E.int.len, hok]; exact Nat.le_refl _)], by rw [E.int.len, hok]; exact Nat.le_refl _, by omega, by omega, ?_⟩
              cbv
              refine EW.vs [(16, .sl 1 (E.int.l R)), (17, .bool false), (15, .ref 4 3 0 0), (14, .ref 2 3 0 0), (13, .ref 0 2 0 0), (12, .bool false), (6, .imm [.sl 3 (G.kind.l ks), .int .i64 root]), (1, .int .i64 m), (2, .int .i64 ii), (3, .int .i64 more), (4, .int .i64 o), (5, .sl 1 (E.int.l kids))] [some (.box 2 (.agg [.row 1 3 0 q1, .int .i64 root])), some (.arr 3 (G.kind.l ks)), some (.box 3 (.agg [.str xn, .bool xt, .row 3 3 0 q2])), some (.arr 3 (G.slot.l ss)), some (.box 3 (.agg [.sl 1 (E.int.l sk), .int .i64 sl, .int .i64 v]))] 147 rfl ?_
              cbv
              (repeat (first | exact trivial | refine And.intro (Emb.Pur _ _) ?_ | refine And.intro (inc_eq A (by omega)) ?_ | refine And.intro rfl ?_ | refine And.intro pg ?_ | refine And.intro hvv.symm ?_ | refine And.intro hd17 ?_ | refine And.intro hy ?_ | refine And.intro hcut ?_ | refine And.intro hdd.symm ?_ | refine And.intro (G.kind.cut (by omega)) ?_ | refine And.intro (G.slot.cut (by omega)) ?_))
              obtain ⟨ss2, hss2⟩ : ∃ s, s = ss.set ii ⟨R, sl, v⟩ := ⟨_, rfl⟩
              have hset2 : G.slot.l ss2 = (G.slot.l ss).set ii (.agg [.sl 1 (E.int.l R), .int .i64 sl, .int .i64 v]) := by rw [hss2, ← G.slot.set, G.sv E]
              have hss2l : ss2.length = ss.length := by rw [hss2, List.length_set]
              ((try cbv) <;> (repeat ((with_reducible refine EW.of ?_); cbv)))
              refine ⟨ii, rfl, by omega, ?_⟩
              cbv
              refine ⟨_, G.slot.l ss2, (congrArg (fun j => (G.slot.l ss)[j]?) (z_add ii)).trans hgs, hset2.trans (congrArg (fun j => (G.slot.l ss).set j _) (z_add ii).symm), rfl, ?_⟩
              cbv
              refine EW.vs [(14, .ref 2 3 0 0), (13, .ref 0 2 0 0), (12, .bool false), (6, .imm [.sl 3 (G.kind.l ks), .int .i64 root]), (1, .int .i64 m), (2, .int .i64 ii), (3, .int .i64 more), (4, .int .i64 o), (5, .sl 1 (E.int.l kids))] [some (.box 2 (.agg [.row 1 3 0 q1, .int .i64 root])), some (.arr 3 (G.kind.l ks)), some (.box 3 (.agg [.str xn, .bool xt, .sl 3 (G.slot.l ss2)]))] 147 rfl ?_
              cbv
              (repeat (first | exact trivial | refine And.intro (Emb.Pur _ _) ?_ | refine And.intro (inc_eq A (by omega)) ?_ | refine And.intro rfl ?_ | refine And.intro pg ?_ | refine And.intro hvv.symm ?_ | refine And.intro hd17 ?_ | refine And.intro hy ?_ | refine And.intro hcut ?_ | refine And.intro hdd.symm ?_ | refine And.intro (G.kind.cut (by omega)) ?_ | refine And.intro (G.slot.cut (by omega)) ?_))
              obtain ⟨ks2, hks2⟩ : ∃ s, s = ks.set m ⟨xn, xt, ss2⟩ := ⟨_, rfl⟩
              have hset1 : G.kind.l ks2 = (G.kind.l ks).set m (.agg [.str xn, .bool xt, .sl 3 (G.slot.l ss2)]) := by rw [hks2, ← G.kind.set, G.kv]
              have hks2l : ks2.length = ks.length := by rw [hks2, List.length_set]
              have hw2 := hwide m ii xn xt ss ⟨sk, sl, sm⟩ hct hx hs d0 v hd hv2 ks2 (by rw [hks2, hss2, hR])
              have hRl : R.length ≤ 33 := by rw [hR]; have := (insF_len o sk d0).2; omega
              have hg2 : Gra.ok ⟨ks2, root⟩ := ⟨by show ks2.length ≤ _; omega, fun y hy => by
                rw [hks2] at hy
                rcases List.mem_or_eq_of_mem_set hy with hy | rfl
                · exact hg.slots y hy
                · refine ⟨by show ss2.length ≤ _; omega, fun z hz => ?_⟩
                  have hz : z ∈ ss2 := hz
                  rw [hss2] at hz
                  rcases List.mem_or_eq_of_mem_set hz with hz | rfl
                  · exact hslots.2 z hz
                  · show R.length ≤ _
                    omega⟩
              have k14 := h14 ks2 hg2
              rw [hw2.1] at k14
              replace k14 : TPure P 14 [.agg [.sl 3 (G.kind.l ks2), .int .i64 root]] (.int .i64 0) := k14
              have k12 := h12b ks2 m hg2
              rw [hw2.2 kids hfb.symm] at k12
              ((try cbv) <;> (repeat ((with_reducible refine EW.of ?_); cbv)))
              refine ⟨m, rfl, hmk, ?_⟩
              cbv
              refine ⟨_, G.kind.l ks2, (congrArg (fun j => (G.kind.l ks)[j]?) (z_add m)).trans hgx, hset1.trans (congrArg (fun j => (G.kind.l ks).set j _) (z_add m).symm), rfl, ?_⟩
              cbv
              refine EW.vs [(13, .ref 0 2 0 0), (12, .bool false), (6, .imm [.sl 3 (G.kind.l ks), .int .i64 root]), (1, .int .i64 m), (2, .int .i64 ii), (3, .int .i64 more), (4, .int .i64 o), (5, .sl 1 (E.int.l kids))] [some (.box 2 (.agg [.sl 3 (G.kind.l ks2), .int .i64 root]))] 147 rfl ?_
              cbv
              (repeat (first | exact trivial | refine And.intro (Emb.Pur _ _) ?_ | refine And.intro (inc_eq A (by omega)) ?_ | refine And.intro rfl ?_ | refine And.intro pg ?_ | refine And.intro hvv.symm ?_ | refine And.intro hd17 ?_ | refine And.intro hy ?_ | refine And.intro hcut ?_ | refine And.intro hdd.symm ?_ | refine And.intro (G.kind.cut (by omega)) ?_ | refine And.intro (G.slot.cut (by omega)) ?_))
              ((try cbv) <;> (repeat ((with_reducible refine EW.of ?_); cbv)))
              (refine ⟨Ent.of (hP ▸ Try.func14) rfl, ?_⟩; refine TC.pureE k14 ?_; cbv; (repeat (first | exact trivial | refine And.intro (Emb.Pur _ _) ?_ | refine And.intro rfl ?_ | refine And.intro (Pur.mk rfl) ?_ | refine And.intro (Pur.mk (by assumption)) ?_)); ((try cbv) <;> (repeat ((with_reducible refine EW.of ?_); cbv))))
              (first | refine byes (eqT rfl) ?_ | refine byes (beqT rfl) ?_)
              ((try cbv) <;> (repeat ((with_reducible refine EW.of ?_); cbv)))
              (refine ⟨Ent.of (hP ▸ Try.func12) rfl, ?_⟩; refine TC.pureE k12 ?_; cbv; (repeat (first | exact trivial | refine And.intro (Emb.Pur _ _) ?_ | refine And.intro rfl ?_ | refine And.intro (Pur.mk rfl) ?_ | refine And.intro (Pur.mk (by assumption)) ?_)); ((try cbv) <;> (repeat ((with_reducible refine EW.of ?_); cbv))))
              ((try cbv) <;> (repeat ((with_reducible refine EW.of ?_); cbv)))
              (refine ⟨Ent.of (hP ▸ Try.func11) rfl, ?_⟩; refine TC.pureE h11 ?_; cbv; (repeat (first | exact trivial | refine And.intro (Emb.Pur _ _) ?_ | refine And.intro rfl ?_ | refine And.intro (Pur.mk rfl) ?_ | refine And.intro (Pur.mk (by assumption)) ?_)); ((try cbv) <;> (repeat ((with_reducible refine EW.of ?_); cbv))))
      have g0 : 0 ≤ o := lt_f h rfl rfl
      obtain ⟨d0, hd0⟩ : ∃ d, d = A.le (A.len (G.kind.l ks)) o := ⟨_, rfl⟩
      have hd : d0 = false → 0 ≤ o ∧ o < ks.length := fun hf => ⟨g0, le_f (hd0.symm.trans hf) hkk rfl⟩
      have hd17 : A.le (A.len (G.kind.l ks)) o = d0 := hd0.symm
      ((try cbv) <;> (repeat ((with_reducible refine EW.of ?_); cbv)))
      obtain ⟨R, hR⟩ : ∃ R, R = insF o sk d0 := ⟨_, rfl⟩
      obtain ⟨S, hS⟩ : ∃ S : LI (Nat × Option (Nat × List Int) × Bool), S = ⟨fun x => [(94, .int .i64 x.1), (93, .int .i64 (A.len (E.int.l sk))), (92, .sl 1 (E.int.l sk)), (16, rowI 5 x.2.1), (17, .bool x.2.2), (15, .ref 4 3 0 0), (14, .ref 2 3 0 0), (13, .ref 0 2 0 0), (12, .bool false), (6, .imm [.sl 3 (G.kind.l ks), .int .i64 root]), (1, .int .i64 m), (2, .int .i64 ii), (3, .int .i64 more), (4, .int .i64 o), (5, .sl 1 (E.int.l kids))], fun x => stI E [some (.box 2 (.agg [.row 1 3 0 q1, .int .i64 root])), some (.arr 3 (G.kind.l ks)), some (.box 3 (.agg [.str xn, .bool xt, .row 3 3 0 q2])), some (.arr 3 (G.slot.l ss)), some (.box 3 (.agg [.sl 1 (E.int.l sk), .int .i64 sl, .int .i64 v]))] x.2.1, fun x => x.1 ≤ sk.length ∧ okI x.2.1 ∧ (outI x.2.1).length ≤ 2 * x.1 ∧ outI x.2.1 ++ insF o (sk.drop x.1) x.2.2 = R, fun x => sk.length - x.1⟩ := ⟨_, rfl⟩
      refine TW.loopM A (T0_ok hP) S _ rfl (0, none, d0) ?_ ?_ ?_
      · rw [hS]; exact ⟨Nat.zero_le _, trivial, Nat.zero_le _, hR.symm⟩
      · rw [hS]
        cbv
        (repeat (first | exact trivial | refine And.intro (Emb.Pur _ _) ?_ | refine And.intro (inc_eq A (by omega)) ?_ | refine And.intro rfl ?_ | refine And.intro pg ?_ | refine And.intro hvv.symm ?_ | refine And.intro hd17 ?_ | refine And.intro hy ?_ | refine And.intro hcut ?_ | refine And.intro hdd.symm ?_ | refine And.intro (G.kind.cut (by omega)) ?_ | refine And.intro (G.slot.cut (by omega)) ?_))
      rintro ⟨j, oo, d⟩ hj l1 L1 e1 e2
      rw [hS] at hj e1 e2
      dsimp only at hj e1 e2
      obtain ⟨hj, hok, hol, hRR⟩ := hj
      subst e1
      obtain ⟨o3, ho3⟩ : ∃ x, x = oo := ⟨_, rfl⟩
      obtain ⟨lo, hlo⟩ : ∃ l, l = outI oo := ⟨_, rfl⟩
      rw [← hlo] at hol hRR
      cases oo with
      | none =>
        dsimp only [stI, rowI, outI, okI] at e2 hok hlo ⊢
        subst e2
        cbv
        ((try cbv) <;> (repeat ((with_reducible refine EW.of ?_); cbv)))
        refine bsplit (fun h => ?_) (fun h => ?_)
        · have h : j < sk.length := lt_nt h rfl hlsk
          obtain ⟨y, hy⟩ : ∃ y, sk[j]? = some y := ⟨_, List.getElem?_eq_getElem h⟩
          have hgy := E.geti hy
          rw [insF_drop hy] at hRR
          ((try cbv) <;> (repeat ((with_reducible refine EW.of ?_); cbv)))
          (refine ⟨_, _, rfl, hgy, ?_⟩; cbv; ((try cbv) <;> (repeat ((with_reducible refine EW.of ?_); cbv))))
          cases d with
          | true =>
            obtain ⟨dd, hdd⟩ : ∃ d, d = true := ⟨_, rfl⟩
            have hnext : lo ++ ([y] ++ insF o (sk.drop (j + 1)) dd) = R := by rw [hdd]; exact hRR
            obtain ⟨l9, hl9⟩ : ∃ d, d = lo ++ [y] := ⟨_, rfl⟩
            obtain ⟨q9, hq9⟩ : ∃ q, q = l9.length := ⟨_, rfl⟩
            have hlen9 : l9.length = lo.length + 1 := by rw [hl9]; simp
            ((try cbv) <;> (repeat ((with_reducible refine EW.of ?_); cbv)))
            first
              | refine ⟨⟨rfl⟩, q9, E.int.l l9, by rw [hq9, hl9, hlo]; first | done | rfl, by rw [hl9, hlo, List.nil_append, E.int.cons, E.int.nil, E.iv]; first | done | rfl, Nat.zero_le _, by omega, by omega, ?_⟩
              | refine ⟨⟨rfl⟩, q9, E.int.l l9, by rw [hq9, hl9, hlo, hok]; simp, by rw [hl9, hlo, E.int.app, E.int.cons, E.int.nil, E.iv, List.take_of_length_le (by rw [E.int.len, hok]; exact Nat.le_refl _)], by rw [E.int.len, hok]; exact Nat.le_refl _, by omega, by omega, ?_⟩
            cbv
            ((try cbv) <;> (repeat ((with_reducible refine EW.of ?_); cbv)))
            refine LM.of (j + 1, some (q9, l9), dd) rfl ?_ ?_ ?_
            · rw [hS]; exact ⟨by show j + 1 ≤ sk.length; omega, hq9, by show l9.length ≤ 2 * (j + 1); omega, by show l9 ++ insF o (sk.drop (j + 1)) dd = R; rw [hl9, List.append_assoc]; exact hnext⟩
            · rw [hS]; show sk.length - (j + 1) < sk.length - j; omega
            · rw [hS]
              cbv
              (repeat (first | exact trivial | refine And.intro (Emb.Pur _ _) ?_ | refine And.intro (inc_eq A (by omega)) ?_ | refine And.intro rfl ?_ | refine And.intro pg ?_ | refine And.intro hvv.symm ?_ | refine And.intro hd17 ?_ | refine And.intro hy ?_ | refine And.intro hcut ?_ | refine And.intro hdd.symm ?_ | refine And.intro (G.kind.cut (by omega)) ?_ | refine And.intro (G.slot.cut (by omega)) ?_))
          | false =>
            rw [insF] at hRR
            ((try cbv) <;> (repeat ((with_reducible refine EW.of ?_); cbv)))
            refine bsplit (fun h2 => ?_) (fun h2 => ?_)
            · have h2 : o ≤ y := le_t h2 rfl rfl
              rw [if_pos h2] at hRR
              obtain ⟨dd, hdd⟩ : ∃ d, d = true := ⟨_, rfl⟩
              ((try cbv) <;> (repeat ((with_reducible refine EW.of ?_); cbv)))
              refine bsplit (fun h3 => ?_) (fun h3 => ?_)
              · have h3 : y ≠ o := ne_t h3 rfl rfl
                rw [if_neg h3] at hRR
                have hnext : lo ++ [o] ++ ([y] ++ insF o (sk.drop (j + 1)) dd) = R := by rw [hdd, List.append_assoc]; exact hRR
                obtain ⟨l9, hl9⟩ : ∃ d, d = lo ++ [o] := ⟨_, rfl⟩
                obtain ⟨q9, hq9⟩ : ∃ q, q = l9.length := ⟨_, rfl⟩
                have hlen9 : l9.length = lo.length + 1 := by rw [hl9]; simp
                obtain ⟨l8, hl8⟩ : ∃ d, d = l9 ++ [y] := ⟨_, rfl⟩
                obtain ⟨q8, hq8⟩ : ∃ q, q = l8.length := ⟨_, rfl⟩
                have hlen8 : l8.length = lo.length + 2 := by rw [hl8]; simp [hlen9]
                ((try cbv) <;> (repeat ((with_reducible refine EW.of ?_); cbv)))
                first
                  | refine ⟨⟨rfl⟩, q9, E.int.l l9, by rw [hq9, hl9, hlo]; first | done | rfl, by rw [hl9, hlo, List.nil_append, E.int.cons, E.int.nil, E.iv]; first | done | rfl, Nat.zero_le _, by omega, by omega, ?_⟩
                  | refine ⟨⟨rfl⟩, q9, E.int.l l9, by rw [hq9, hl9, hlo, hok]; simp, by rw [hl9, hlo, E.int.app, E.int.cons, E.int.nil, E.iv, List.take_of_length_le (by rw [E.int.len, hok]; exact Nat.le_refl _)], by rw [E.int.len, hok]; exact Nat.le_refl _, by omega, by omega, ?_⟩
                cbv
                ((try cbv) <;> (repeat ((with_reducible refine EW.of ?_); cbv)))
                refine ⟨⟨rfl⟩, q8, E.int.l l8, by rw [hq8, hl8, hq9]; simp, by rw [hl8, E.int.app, E.int.cons, E.int.nil, E.iv, List.take_of_length_le (by rw [E.int.len, hq9]; exact Nat.le_refl _)], by rw [E.int.len, hq9]; exact Nat.le_refl _, by omega, by omega, ?_⟩
                cbv
                ((try cbv) <;> (repeat ((with_reducible refine EW.of ?_); cbv)))
                refine LM.of (j + 1, some (q8, l8), dd) rfl ?_ ?_ ?_
                · rw [hS]; exact ⟨by show j + 1 ≤ sk.length; omega, hq8, by show l8.length ≤ 2 * (j + 1); omega, by show l8 ++ insF o (sk.drop (j + 1)) dd = R; rw [hl8, hl9, List.append_assoc]; exact hnext⟩
                · rw [hS]; show sk.length - (j + 1) < sk.length - j; omega
                · rw [hS]
                  cbv
                  (repeat (first | exact trivial | refine And.intro (Emb.Pur _ _) ?_ | refine And.intro (inc_eq A (by omega)) ?_ | refine And.intro rfl ?_ | refine And.intro pg ?_ | refine And.intro hvv.symm ?_ | refine And.intro hd17 ?_ | refine And.intro hy ?_ | refine And.intro hcut ?_ | refine And.intro hdd.symm ?_ | refine And.intro (G.kind.cut (by omega)) ?_ | refine And.intro (G.slot.cut (by omega)) ?_))
              · have h3 : y = o := ne_f h3 rfl rfl
                rw [if_pos h3] at hRR
                have hnext : lo ++ ([y] ++ insF o (sk.drop (j + 1)) dd) = R := by rw [hdd]; exact hRR
                obtain ⟨l9, hl9⟩ : ∃ d, d = lo ++ [y] := ⟨_, rfl⟩
                obtain ⟨q9, hq9⟩ : ∃ q, q = l9.length := ⟨_, rfl⟩
                have hlen9 : l9.length = lo.length + 1 := by rw [hl9]; simp
                ((try cbv) <;> (repeat ((with_reducible refine EW.of ?_); cbv)))
                first
                  | refine ⟨⟨rfl⟩, q9, E.int.l l9, by rw [hq9, hl9, hlo]; first | done | rfl, by rw [hl9, hlo, List.nil_append, E.int.cons, E.int.nil, E.iv]; first | done | rfl, Nat.zero_le _, by omega, by omega, ?_⟩
                  | refine ⟨⟨rfl⟩, q9, E.int.l l9, by rw [hq9, hl9, hlo, hok]; simp, by rw [hl9, hlo, E.int.app, E.int.cons, E.int.nil, E.iv, List.take_of_length_le (by rw [E.int.len, hok]; exact Nat.le_refl _)], by rw [E.int.len, hok]; exact Nat.le_refl _, by omega, by omega, ?_⟩
                cbv
                ((try cbv) <;> (repeat ((with_reducible refine EW.of ?_); cbv)))
                refine LM.of (j + 1, some (q9, l9), dd) rfl ?_ ?_ ?_
                · rw [hS]; exact ⟨by show j + 1 ≤ sk.length; omega, hq9, by show l9.length ≤ 2 * (j + 1); omega, by show l9 ++ insF o (sk.drop (j + 1)) dd = R; rw [hl9, List.append_assoc]; exact hnext⟩
                · rw [hS]; show sk.length - (j + 1) < sk.length - j; omega
                · rw [hS]
                  cbv
                  (repeat (first | exact trivial | refine And.intro (Emb.Pur _ _) ?_ | refine And.intro (inc_eq A (by omega)) ?_ | refine And.intro rfl ?_ | refine And.intro pg ?_ | refine And.intro hvv.symm ?_ | refine And.intro hd17 ?_ | refine And.intro hy ?_ | refine And.intro hcut ?_ | refine And.intro hdd.symm ?_ | refine And.intro (G.kind.cut (by omega)) ?_ | refine And.intro (G.slot.cut (by omega)) ?_))
            · have h2 : ¬ o ≤ y := Int.not_le.2 (le_f h2 rfl rfl)
              rw [if_neg h2] at hRR
              obtain ⟨dd, hdd⟩ : ∃ d, d = false := ⟨_, rfl⟩
              have hnext : lo ++ ([y] ++ insF o (sk.drop (j + 1)) dd) = R := by rw [hdd]; exact hRR
              obtain ⟨l9, hl9⟩ : ∃ d, d = lo ++ [y] := ⟨_, rfl⟩
              obtain ⟨q9, hq9⟩ : ∃ q, q = l9.length := ⟨_, rfl⟩
              have hlen9 : l9.length = lo.length + 1 := by rw [hl9]; simp
              ((try cbv) <;> (repeat ((with_reducible refine EW.of ?_); cbv)))
              first
                | refine ⟨⟨rfl⟩, q9, E.int.l l9, by rw [hq9, hl9, hlo]; first | done | rfl, by rw [hl9, hlo, List.nil_append, E.int.cons, E.int.nil, E.iv]; first | done | rfl, Nat.zero_le _, by omega, by omega, ?_⟩
                | refine ⟨⟨rfl⟩, q9, E.int.l l9, by rw [hq9, hl9, hlo, hok]; simp, by rw [hl9, hlo, E.int.app, E.int.cons, E.int.nil, E.iv, List.take_of_length_le (by rw [E.int.len, hok]; exact Nat.le_refl _)], by rw [E.int.len, hok]; exact Nat.le_refl _, by omega, by omega, ?_⟩
              cbv
              ((try cbv) <;> (repeat ((with_reducible refine EW.of ?_); cbv)))
              refine LM.of (j + 1, some (q9, l9), dd) rfl ?_ ?_ ?_
              · rw [hS]; exact ⟨by show j + 1 ≤ sk.length; omega, hq9, by show l9.length ≤ 2 * (j + 1); omega, by show l9 ++ insF o (sk.drop (j + 1)) dd = R; rw [hl9, List.append_assoc]; exact hnext⟩
              · rw [hS]; show sk.length - (j + 1) < sk.length - j; omega
              · rw [hS]
                cbv
                (repeat (first | exact trivial | refine And.intro (Emb.Pur _ _) ?_ | refine And.intro (inc_eq A (by omega)) ?_ | refine And.intro rfl ?_ | refine And.intro pg ?_ | refine And.intro hvv.symm ?_ | refine And.intro hd17 ?_ | refine And.intro hy ?_ | refine And.intro hcut ?_ | refine And.intro hdd.symm ?_ | refine And.intro (G.kind.cut (by omega)) ?_ | refine And.intro (G.slot.cut (by omega)) ?_))
        · have h : sk.length ≤ j := lt_nf h rfl hlsk
          rw [List.drop_eq_nil_of_le h] at hRR
          cases d with
          | true =>
            rw [insF, List.append_nil] at hRR
            first
              | have hcut : Tw.Cut (E.int.l l) 0 q (E.int.l R) := by rw [← hRR, hlo]; exact E.int.cut hok
              | have hcut : ([] : List AV) = E.int.l R := by rw [← hRR, hlo]; exact E.int.nil.symm
            refine EW.vs [(16, .sl 1 (E.int.l R)), (17, .bool true), (15, .ref 4 3 0 0), (14, .ref 2 3 0 0), (13, .ref 0 2 0 0), (12, .bool false), (6, .imm [.sl 3 (G.kind.l ks), .int .i64 root]), (1, .int .i64 m), (2, .int .i64 ii), (3, .int .i64 more), (4, .int .i64 o), (5, .sl 1 (E.int.l kids))] [some (.box 2 (.agg [.row 1 3 0 q1, .int .i64 root])), some (.arr 3 (G.kind.l ks)), some (.box 3 (.agg [.str xn, .bool xt, .row 3 3 0 q2])), some (.arr 3 (G.slot.l ss)), some (.box 3 (.agg [.sl 1 (E.int.l sk), .int .i64 sl, .int .i64 v]))] 147 rfl ?_
            cbv
            (repeat (first | exact trivial | refine And.intro (Emb.Pur _ _) ?_ | refine And.intro (inc_eq A (by omega)) ?_ | refine And.intro rfl ?_ | refine And.intro pg ?_ | refine And.intro hvv.symm ?_ | refine And.intro hd17 ?_ | refine And.intro hy ?_ | refine And.intro hcut ?_ | refine And.intro hdd.symm ?_ | refine And.intro (G.kind.cut (by omega)) ?_ | refine And.intro (G.slot.cut (by omega)) ?_))
            obtain ⟨ss2, hss2⟩ : ∃ s, s = ss.set ii ⟨R, sl, v⟩ := ⟨_, rfl⟩
            have hset2 : G.slot.l ss2 = (G.slot.l ss).set ii (.agg [.sl 1 (E.int.l R), .int .i64 sl, .int .i64 v]) := by rw [hss2, ← G.slot.set, G.sv E]
            have hss2l : ss2.length = ss.length := by rw [hss2, List.length_set]
            ((try cbv) <;> (repeat ((with_reducible refine EW.of ?_); cbv)))
            refine ⟨ii, rfl, by omega, ?_⟩
            cbv
            refine ⟨_, G.slot.l ss2, (congrArg (fun j => (G.slot.l ss)[j]?) (z_add ii)).trans hgs, hset2.trans (congrArg (fun j => (G.slot.l ss).set j _) (z_add ii).symm), rfl, ?_⟩
            cbv
            refine EW.vs [(14, .ref 2 3 0 0), (13, .ref 0 2 0 0), (12, .bool false), (6, .imm [.sl 3 (G.kind.l ks), .int .i64 root]), (1, .int .i64 m), (2, .int .i64 ii), (3, .int .i64 more), (4, .int .i64 o), (5, .sl 1 (E.int.l kids))] [some (.box 2 (.agg [.row 1 3 0 q1, .int .i64 root])), some (.arr 3 (G.kind.l ks)), some (.box 3 (.agg [.str xn, .bool xt, .sl 3 (G.slot.l ss2)]))] 147 rfl ?_
            cbv
            (repeat (first | exact trivial | refine And.intro (Emb.Pur _ _) ?_ | refine And.intro (inc_eq A (by omega)) ?_ | refine And.intro rfl ?_ | refine And.intro pg ?_ | refine And.intro hvv.symm ?_ | refine And.intro hd17 ?_ | refine And.intro hy ?_ | refine And.intro hcut ?_ | refine And.intro hdd.symm ?_ | refine And.intro (G.kind.cut (by omega)) ?_ | refine And.intro (G.slot.cut (by omega)) ?_))
            obtain ⟨ks2, hks2⟩ : ∃ s, s = ks.set m ⟨xn, xt, ss2⟩ := ⟨_, rfl⟩
            have hset1 : G.kind.l ks2 = (G.kind.l ks).set m (.agg [.str xn, .bool xt, .sl 3 (G.slot.l ss2)]) := by rw [hks2, ← G.kind.set, G.kv]
            have hks2l : ks2.length = ks.length := by rw [hks2, List.length_set]
            have hw2 := hwide m ii xn xt ss ⟨sk, sl, sm⟩ hct hx hs d0 v hd hv2 ks2 (by rw [hks2, hss2, hR])
            have hRl : R.length ≤ 33 := by rw [hR]; have := (insF_len o sk d0).2; omega
            have hg2 : Gra.ok ⟨ks2, root⟩ := ⟨by show ks2.length ≤ _; omega, fun y hy => by
              rw [hks2] at hy
              rcases List.mem_or_eq_of_mem_set hy with hy | rfl
              · exact hg.slots y hy
              · refine ⟨by show ss2.length ≤ _; omega, fun z hz => ?_⟩
                have hz : z ∈ ss2 := hz
                rw [hss2] at hz
                rcases List.mem_or_eq_of_mem_set hz with hz | rfl
                · exact hslots.2 z hz
                · show R.length ≤ _
                  omega⟩
            have k14 := h14 ks2 hg2
            rw [hw2.1] at k14
            replace k14 : TPure P 14 [.agg [.sl 3 (G.kind.l ks2), .int .i64 root]] (.int .i64 0) := k14
            have k12 := h12b ks2 m hg2
            rw [hw2.2 kids hfb.symm] at k12
            ((try cbv) <;> (repeat ((with_reducible refine EW.of ?_); cbv)))
            refine ⟨m, rfl, hmk, ?_⟩
            cbv
            refine ⟨_, G.kind.l ks2, (congrArg (fun j => (G.kind.l ks)[j]?) (z_add m)).trans hgx, hset1.trans (congrArg (fun j => (G.kind.l ks).set j _) (z_add m).symm), rfl, ?_⟩
            cbv
            refine EW.vs [(13, .ref 0 2 0 0), (12, .bool false), (6, .imm [.sl 3 (G.kind.l ks), .int .i64 root]), (1, .int .i64 m), (2, .int .i64 ii), (3, .int .i64 more), (4, .int .i64 o), (5, .sl 1 (E.int.l kids))] [some (.box 2 (.agg [.sl 3 (G.kind.l ks2), .int .i64 root]))] 147 rfl ?_
            cbv
            (repeat (first | exact trivial | refine And.intro (Emb.Pur _ _) ?_ | refine And.intro (inc_eq A (by omega)) ?_ | refine And.intro rfl ?_ | refine And.intro pg ?_ | refine And.intro hvv.symm ?_ | refine And.intro hd17 ?_ | refine And.intro hy ?_ | refine And.intro hcut ?_ | refine And.intro hdd.symm ?_ | refine And.intro (G.kind.cut (by omega)) ?_ | refine And.intro (G.slot.cut (by omega)) ?_))
            ((try cbv) <;> (repeat ((with_reducible refine EW.of ?_); cbv)))
            (refine ⟨Ent.of (hP ▸ Try.func14) rfl, ?_⟩; refine TC.pureE k14 ?_; cbv; (repeat (first | exact trivial | refine And.intro (Emb.Pur _ _) ?_ | refine And.intro rfl ?_ | refine And.intro (Pur.mk rfl) ?_ | refine And.intro (Pur.mk (by assumption)) ?_)); ((try cbv) <;> (repeat ((with_reducible refine EW.of ?_); cbv))))
            (first | refine byes (eqT rfl) ?_ | refine byes (beqT rfl) ?_)
            ((try cbv) <;> (repeat ((with_reducible refine EW.of ?_); cbv)))
            (refine ⟨Ent.of (hP ▸ Try.func12) rfl, ?_⟩; refine TC.pureE k12 ?_; cbv; (repeat (first | exact trivial | refine And.intro (Emb.Pur _ _) ?_ | refine And.intro rfl ?_ | refine And.intro (Pur.mk rfl) ?_ | refine And.intro (Pur.mk (by assumption)) ?_)); ((try cbv) <;> (repeat ((with_reducible refine EW.of ?_); cbv))))
            ((try cbv) <;> (repeat ((with_reducible refine EW.of ?_); cbv)))
            (refine ⟨Ent.of (hP ▸ Try.func11) rfl, ?_⟩; refine TC.pureE h11 ?_; cbv; (repeat (first | exact trivial | refine And.intro (Emb.Pur _ _) ?_ | refine And.intro rfl ?_ | refine And.intro (Pur.mk rfl) ?_ | refine And.intro (Pur.mk (by assumption)) ?_)); ((try cbv) <;> (repeat ((with_reducible refine EW.of ?_); cbv))))
          | false =>
            rw [insF] at hRR
            obtain ⟨y, hy⟩ : ∃ y, y = o := ⟨_, rfl⟩
            obtain ⟨l9, hl9⟩ : ∃ d, d = lo ++ [y] := ⟨_, rfl⟩
            obtain ⟨q9, hq9⟩ : ∃ q, q = l9.length := ⟨_, rfl⟩
            have hlen9 : l9.length = lo.length + 1 := by rw [hl9]; simp
            have hcut : Tw.Cut (E.int.l l9) 0 q9 (E.int.l R) := by rw [← hRR, ← hy, ← hl9]; exact E.int.cut hq9
            rw [← hy]
            ((try cbv) <;> (repeat ((with_reducible refine EW.of ?_); cbv)))
            first
              | refine ⟨⟨rfl⟩, q9, E.int.l l9, by rw [hq9, hl9, hlo]; first | done | rfl, by rw [hl9, hlo, List.nil_append, E.int.cons, E.int.nil, E.iv]; first | done | rfl, Nat.zero_le _, by omega, by omega, ?_⟩
              | refine ⟨⟨rfl⟩, q9, E.int.l l9, by rw [hq9, hl9, hlo, hok]; simp, by rw [hl9, hlo, E.int.app, E.int.cons, E.int.nil, E.iv, List.take_of_length_le (by rw [E.int.len, hok]; exact Nat.le_refl _)], by rw [E.int.len, hok]; exact Nat.le_refl _, by omega, by omega, ?_⟩
            cbv
            refine EW.vs [(16, .sl 1 (E.int.l R)), (17, .bool false), (15, .ref 4 3 0 0), (14, .ref 2 3 0 0), (13, .ref 0 2 0 0), (12, .bool false), (6, .imm [.sl 3 (G.kind.l ks), .int .i64 root]), (1, .int .i64 m), (2, .int .i64 ii), (3, .int .i64 more), (4, .int .i64 o), (5, .sl 1 (E.int.l kids))] [some (.box 2 (.agg [.row 1 3 0 q1, .int .i64 root])), some (.arr 3 (G.kind.l ks)), some (.box 3 (.agg [.str xn, .bool xt, .row 3 3 0 q2])), some (.arr 3 (G.slot.l ss)), some (.box 3 (.agg [.sl 1 (E.int.l sk), .int .i64 sl, .int .i64 v]))] 147 rfl ?_
            cbv
            (repeat (first | exact trivial | refine And.intro (Emb.Pur _ _) ?_ | refine And.intro (inc_eq A (by omega)) ?_ | refine And.intro rfl ?_ | refine And.intro pg ?_ | refine And.intro hvv.symm ?_ | refine And.intro hd17 ?_ | refine And.intro hy ?_ | refine And.intro hcut ?_ | refine And.intro hdd.symm ?_ | refine And.intro (G.kind.cut (by omega)) ?_ | refine And.intro (G.slot.cut (by omega)) ?_))
            obtain ⟨ss2, hss2⟩ : ∃ s, s = ss.set ii ⟨R, sl, v⟩ := ⟨_, rfl⟩
            have hset2 : G.slot.l ss2 = (G.slot.l ss).set ii (.agg [.sl 1 (E.int.l R), .int .i64 sl, .int .i64 v]) := by rw [hss2, ← G.slot.set, G.sv E]
            have hss2l : ss2.length = ss.length := by rw [hss2, List.length_set]
            ((try cbv) <;> (repeat ((with_reducible refine EW.of ?_); cbv)))
            refine ⟨ii, rfl, by omega, ?_⟩
            cbv
            refine ⟨_, G.slot.l ss2, (congrArg (fun j => (G.slot.l ss)[j]?) (z_add ii)).trans hgs, hset2.trans (congrArg (fun j => (G.slot.l ss).set j _) (z_add ii).symm), rfl, ?_⟩
            cbv
            refine EW.vs [(14, .ref 2 3 0 0), (13, .ref 0 2 0 0), (12, .bool false), (6, .imm [.sl 3 (G.kind.l ks), .int .i64 root]), (1, .int .i64 m), (2, .int .i64 ii), (3, .int .i64 more), (4, .int .i64 o), (5, .sl 1 (E.int.l kids))] [some (.box 2 (.agg [.row 1 3 0 q1, .int .i64 root])), some (.arr 3 (G.kind.l ks)), some (.box 3 (.agg [.str xn, .bool xt, .sl 3 (G.slot.l ss2)]))] 147 rfl ?_
            cbv
            (repeat (first | exact trivial | refine And.intro (Emb.Pur _ _) ?_ | refine And.intro (inc_eq A (by omega)) ?_ | refine And.intro rfl ?_ | refine And.intro pg ?_ | refine And.intro hvv.symm ?_ | refine And.intro hd17 ?_ | refine And.intro hy ?_ | refine And.intro hcut ?_ | refine And.intro hdd.symm ?_ | refine And.intro (G.kind.cut (by omega)) ?_ | refine And.intro (G.slot.cut (by omega)) ?_))
            obtain ⟨ks2, hks2⟩ : ∃ s, s = ks.set m ⟨xn, xt, ss2⟩ := ⟨_, rfl⟩
            have hset1 : G.kind.l ks2 = (G.kind.l ks).set m (.agg [.str xn, .bool xt, .sl 3 (G.slot.l ss2)]) := by rw [hks2, ← G.kind.set, G.kv]
            have hks2l : ks2.length = ks.length := by rw [hks2, List.length_set]
            have hw2 := hwide m ii xn xt ss ⟨sk, sl, sm⟩ hct hx hs d0 v hd hv2 ks2 (by rw [hks2, hss2, hR])
            have hRl : R.length ≤ 33 := by rw [hR]; have := (insF_len o sk d0).2; omega
            have hg2 : Gra.ok ⟨ks2, root⟩ := ⟨by show ks2.length ≤ _; omega, fun y hy => by
              rw [hks2] at hy
              rcases List.mem_or_eq_of_mem_set hy with hy | rfl
              · exact hg.slots y hy
              · refine ⟨by show ss2.length ≤ _; omega, fun z hz => ?_⟩
                have hz : z ∈ ss2 := hz
                rw [hss2] at hz
                rcases List.mem_or_eq_of_mem_set hz with hz | rfl
                · exact hslots.2 z hz
                · show R.length ≤ _
                  omega⟩
            have k14 := h14 ks2 hg2
            rw [hw2.1] at k14
            replace k14 : TPure P 14 [.agg [.sl 3 (G.kind.l ks2), .int .i64 root]] (.int .i64 0) := k14
            have k12 := h12b ks2 m hg2
            rw [hw2.2 kids hfb.symm] at k12
            ((try cbv) <;> (repeat ((with_reducible refine EW.of ?_); cbv)))
            refine ⟨m, rfl, hmk, ?_⟩
            cbv
            refine ⟨_, G.kind.l ks2, (congrArg (fun j => (G.kind.l ks)[j]?) (z_add m)).trans hgx, hset1.trans (congrArg (fun j => (G.kind.l ks).set j _) (z_add m).symm), rfl, ?_⟩
            cbv
            refine EW.vs [(13, .ref 0 2 0 0), (12, .bool false), (6, .imm [.sl 3 (G.kind.l ks), .int .i64 root]), (1, .int .i64 m), (2, .int .i64 ii), (3, .int .i64 more), (4, .int .i64 o), (5, .sl 1 (E.int.l kids))] [some (.box 2 (.agg [.sl 3 (G.kind.l ks2), .int .i64 root]))] 147 rfl ?_
            cbv
            (repeat (first | exact trivial | refine And.intro (Emb.Pur _ _) ?_ | refine And.intro (inc_eq A (by omega)) ?_ | refine And.intro rfl ?_ | refine And.intro pg ?_ | refine And.intro hvv.symm ?_ | refine And.intro hd17 ?_ | refine And.intro hy ?_ | refine And.intro hcut ?_ | refine And.intro hdd.symm ?_ | refine And.intro (G.kind.cut (by omega)) ?_ | refine And.intro (G.slot.cut (by omega)) ?_))
            ((try cbv) <;> (repeat ((with_reducible refine EW.of ?_); cbv)))
            (refine ⟨Ent.of (hP ▸ Try.func14) rfl, ?_⟩; refine TC.pureE k14 ?_; cbv; (repeat (first | exact trivial | refine And.intro (Emb.Pur _ _) ?_ | refine And.intro rfl ?_ | refine And.intro (Pur.mk rfl) ?_ | refine And.intro (Pur.mk (by assumption)) ?_)); ((try cbv) <;> (repeat ((with_reducible refine EW.of ?_); cbv))))
            (first | refine byes (eqT rfl) ?_ | refine byes (beqT rfl) ?_)
            ((try cbv) <;> (repeat ((with_reducible refine EW.of ?_); cbv)))
            (refine ⟨Ent.of (hP ▸ Try.func12) rfl, ?_⟩; refine TC.pureE k12 ?_; cbv; (repeat (first | exact trivial | refine And.intro (Emb.Pur _ _) ?_ | refine And.intro rfl ?_ | refine And.intro (Pur.mk rfl) ?_ | refine And.intro (Pur.mk (by assumption)) ?_)); ((try cbv) <;> (repeat ((with_reducible refine EW.of ?_); cbv))))
            ((try cbv) <;> (repeat ((with_reducible refine EW.of ?_); cbv)))
            (refine ⟨Ent.of (hP ▸ Try.func11) rfl, ?_⟩; refine TC.pureE h11 ?_; cbv; (repeat (first | exact trivial | refine And.intro (Emb.Pur _ _) ?_ | refine And.intro rfl ?_ | refine And.intro (Pur.mk rfl) ?_ | refine And.intro (Pur.mk (by assumption)) ?_)); ((try cbv) <;> (repeat ((with_reducible refine EW.of ?_); cbv))))
      | some x =>
        obtain ⟨q, l⟩ := x
        dsimp only [stI, rowI, outI, okI] at e2 hok hlo ⊢
        have hq64 : q ≤ 64 := by rw [hok, ← hlo]; omega
        subst e2
        cbv
        ((try cbv) <;> (repeat ((with_reducible refine EW.of ?_); cbv)))
        refine bsplit (fun h => ?_) (fun h => ?_)
        · have h : j < sk.length := lt_nt h rfl hlsk
          obtain ⟨y, hy⟩ : ∃ y, sk[j]? = some y := ⟨_, List.getElem?_eq_getElem h⟩
          have hgy := E.geti hy
          rw [insF_drop hy] at hRR
          ((try cbv) <;> (repeat ((with_reducible refine EW.of ?_); cbv)))
          (refine ⟨_, _, rfl, hgy, ?_⟩; cbv; ((try cbv) <;> (repeat ((with_reducible refine EW.of ?_); cbv))))
          cases d with
          | true =>
            obtain ⟨dd, hdd⟩ : ∃ d, d = true := ⟨_, rfl⟩
            have hnext : lo ++ ([y] ++ insF o (sk.drop (j + 1)) dd) = R := by rw [hdd]; exact hRR
            obtain ⟨l9, hl9⟩ : ∃ d, d = lo ++ [y] := ⟨_, rfl⟩
            obtain ⟨q9, hq9⟩ : ∃ q, q = l9.length := ⟨_, rfl⟩
            have hlen9 : l9.length = lo.length + 1 := by rw [hl9]; simp
            ((try cbv) <;> (repeat ((with_reducible refine EW.of ?_); cbv)))
            first
              | refine ⟨⟨rfl⟩, q9, E.int.l l9, by rw [hq9, hl9, hlo]; first | done | rfl, by rw [hl9, hlo, List.nil_append, E.int.cons, E.int.nil, E.iv]; first | done | rfl, Nat.zero_le _, by omega, by omega, ?_⟩
              | refine ⟨⟨rfl⟩, q9, E.int.l l9, by rw [hq9, hl9, hlo, hok]; simp, by rw [hl9, hlo, E.int.app, E.int.cons, E.int.nil, E.iv, List.take_of_length_le (by rw [E.int.len, hok]; exact Nat.le_refl _)], by rw [E.int.len, hok]; exact Nat.le_refl _, by omega, by omega, ?_⟩
            cbv
            ((try cbv) <;> (repeat ((with_reducible refine EW.of ?_); cbv)))
            refine LM.of (j + 1, some (q9, l9), dd) rfl ?_ ?_ ?_
            · rw [hS]; exact ⟨by show j + 1 ≤ sk.length; omega, hq9, by show l9.length ≤ 2 * (j + 1); omega, by show l9 ++ insF o (sk.drop (j + 1)) dd = R; rw [hl9, List.append_assoc]; exact hnext⟩
            · rw [hS]; show sk.length - (j + 1) < sk.length - j; omega
            · rw [hS]
              cbv
              (repeat (first | exact trivial | refine And.intro (Emb.Pur _ _) ?_ | refine And.intro (inc_eq A (by omega)) ?_ | refine And.intro rfl ?_ | refine And.intro pg ?_ | refine And.intro hvv.symm ?_ | refine And.intro hd17 ?_ | refine And.intro hy ?_ | refine And.intro hcut ?_ | refine And.intro hdd.symm ?_ | refine And.intro (G.kind.cut (by omega)) ?_ | refine And.intro (G.slot.cut (by omega)) ?_))
          | false =>
            rw [insF] at hRR
            ((try cbv) <;> (repeat ((with_reducible refine EW.of ?_); cbv)))
            refine bsplit (fun h2 => ?_) (fun h2 => ?_)
            · have h2 : o ≤ y := le_t h2 rfl rfl
              rw [if_pos h2] at hRR
              obtain ⟨dd, hdd⟩ : ∃ d, d = true := ⟨_, rfl⟩
              ((try cbv) <;> (repeat ((with_reducible refine EW.of ?_); cbv)))
              refine bsplit (fun h3 => ?_) (fun h3 => ?_)
              · have h3 : y ≠ o := ne_t h3 rfl rfl
                rw [if_neg h3] at hRR
                have hnext : lo ++ [o] ++ ([y] ++ insF o (sk.drop (j + 1)) dd) = R := by rw [hdd, List.append_assoc]; exact hRR
                obtain ⟨l9, hl9⟩ : ∃ d, d = lo ++ [o] := ⟨_, rfl⟩
                obtain ⟨q9, hq9⟩ : ∃ q, q = l9.length := ⟨_, rfl⟩
                have hlen9 : l9.length = lo.length + 1 := by rw [hl9]; simp
                obtain ⟨l8, hl8⟩ : ∃ d, d = l9 ++ [y] := ⟨_, rfl⟩
                obtain ⟨q8, hq8⟩ : ∃ q, q = l8.length := ⟨_, rfl⟩
                have hlen8 : l8.length = lo.length + 2 := by rw [hl8]; simp [hlen9]
                ((try cbv) <;> (repeat ((with_reducible refine EW.of ?_); cbv)))
                first
                  | refine ⟨⟨rfl⟩, q9, E.int.l l9, by rw [hq9, hl9, hlo]; first | done | rfl, by rw [hl9, hlo, List.nil_append, E.int.cons, E.int.nil, E.iv]; first | done | rfl, Nat.zero_le _, by omega, by omega, ?_⟩
                  | refine ⟨⟨rfl⟩, q9, E.int.l l9, by rw [hq9, hl9, hlo, hok]; simp, by rw [hl9, hlo, E.int.app, E.int.cons, E.int.nil, E.iv, List.take_of_length_le (by rw [E.int.len, hok]; exact Nat.le_refl _)], by rw [E.int.len, hok]; exact Nat.le_refl _, by omega, by omega, ?_⟩
                cbv
                ((try cbv) <;> (repeat ((with_reducible refine EW.of ?_); cbv)))
                refine ⟨⟨rfl⟩, q8, E.int.l l8, by rw [hq8, hl8, hq9]; simp, by rw [hl8, E.int.app, E.int.cons, E.int.nil, E.iv, List.take_of_length_le (by rw [E.int.len, hq9]; exact Nat.le_refl _)], by rw [E.int.len, hq9]; exact Nat.le_refl _, by omega, by omega, ?_⟩
                cbv
                ((try cbv) <;> (repeat ((with_reducible refine EW.of ?_); cbv)))
                refine LM.of (j + 1, some (q8, l8), dd) rfl ?_ ?_ ?_
                · rw [hS]; exact ⟨by show j + 1 ≤ sk.length; omega, hq8, by show l8.length ≤ 2 * (j + 1); omega, by show l8 ++ insF o (sk.drop (j + 1)) dd = R; rw [hl8, hl9, List.append_assoc]; exact hnext⟩
                · rw [hS]; show sk.length - (j + 1) < sk.length - j; omega
                · rw [hS]
                  cbv
                  (repeat (first | exact trivial | refine And.intro (Emb.Pur _ _) ?_ | refine And.intro (inc_eq A (by omega)) ?_ | refine And.intro rfl ?_ | refine And.intro pg ?_ | refine And.intro hvv.symm ?_ | refine And.intro hd17 ?_ | refine And.intro hy ?_ | refine And.intro hcut ?_ | refine And.intro hdd.symm ?_ | refine And.intro (G.kind.cut (by omega)) ?_ | refine And.intro (G.slot.cut (by omega)) ?_))
              · have h3 : y = o := ne_f h3 rfl rfl
                rw [if_pos h3] at hRR
                have hnext : lo ++ ([y] ++ insF o (sk.drop (j + 1)) dd) = R := by rw [hdd]; exact hRR
                obtain ⟨l9, hl9⟩ : ∃ d, d = lo ++ [y] := ⟨_, rfl⟩
                obtain ⟨q9, hq9⟩ : ∃ q, q = l9.length := ⟨_, rfl⟩
                have hlen9 : l9.length = lo.length + 1 := by rw [hl9]; simp
                ((try cbv) <;> (repeat ((with_reducible refine EW.of ?_); cbv)))
                first
                  | refine ⟨⟨rfl⟩, q9, E.int.l l9, by rw [hq9, hl9, hlo]; first | done | rfl, by rw [hl9, hlo, List.nil_append, E.int.cons, E.int.nil, E.iv]; first | done | rfl, Nat.zero_le _, by omega, by omega, ?_⟩
                  | refine ⟨⟨rfl⟩, q9, E.int.l l9, by rw [hq9, hl9, hlo, hok]; simp, by rw [hl9, hlo, E.int.app, E.int.cons, E.int.nil, E.iv, List.take_of_length_le (by rw [E.int.len, hok]; exact Nat.le_refl _)], by rw [E.int.len, hok]; exact Nat.le_refl _, by omega, by omega, ?_⟩
                cbv
                ((try cbv) <;> (repeat ((with_reducible refine EW.of ?_); cbv)))
                refine LM.of (j + 1, some (q9, l9), dd) rfl ?_ ?_ ?_
                · rw [hS]; exact ⟨by show j + 1 ≤ sk.length; omega, hq9, by show l9.length ≤ 2 * (j + 1); omega, by show l9 ++ insF o (sk.drop (j + 1)) dd = R; rw [hl9, List.append_assoc]; exact hnext⟩
                · rw [hS]; show sk.length - (j + 1) < sk.length - j; omega
                · rw [hS]
                  cbv
                  (repeat (first | exact trivial | refine And.intro (Emb.Pur _ _) ?_ | refine And.intro (inc_eq A (by omega)) ?_ | refine And.intro rfl ?_ | refine And.intro pg ?_ | refine And.intro hvv.symm ?_ | refine And.intro hd17 ?_ | refine And.intro hy ?_ | refine And.intro hcut ?_ | refine And.intro hdd.symm ?_ | refine And.intro (G.kind.cut (by omega)) ?_ | refine And.intro (G.slot.cut (by omega)) ?_))
            · have h2 : ¬ o ≤ y := Int.not_le.2 (le_f h2 rfl rfl)
              rw [if_neg h2] at hRR
              obtain ⟨dd, hdd⟩ : ∃ d, d = false := ⟨_, rfl⟩
              have hnext : lo ++ ([y] ++ insF o (sk.drop (j + 1)) dd) = R := by rw [hdd]; exact hRR
              obtain ⟨l9, hl9⟩ : ∃ d, d = lo ++ [y] := ⟨_, rfl⟩
              obtain ⟨q9, hq9⟩ : ∃ q, q = l9.length := ⟨_, rfl⟩
              have hlen9 : l9.length = lo.length + 1 := by rw [hl9]; simp
              ((try cbv) <;> (repeat ((with_reducible refine EW.of ?_); cbv)))
              first
                | refine ⟨⟨rfl⟩, q9, E.int.l l9, by rw [hq9, hl9, hlo]; first | done | rfl, by rw [hl9, hlo, List.nil_append, E.int.cons, E.int.nil, E.iv]; first | done | rfl, Nat.zero_le _, by omega, by omega, ?_⟩
                | refine ⟨⟨rfl⟩, q9, E.int.l l9, by rw [hq9, hl9, hlo, hok]; simp, by rw [hl9, hlo, E.int.app, E.int.cons, E.int.nil, E.iv, List.take_of_length_le (by rw [E.int.len, hok]; exact Nat.le_refl _)], by rw [E.int.len, hok]; exact Nat.le_refl _, by omega, by omega, ?_⟩
              cbv
              ((try cbv) <;> (repeat ((with_reducible refine EW.of ?_); cbv)))
              refine LM.of (j + 1, some (q9, l9), dd) rfl ?_ ?_ ?_
              · rw [hS]; exact ⟨by show j + 1 ≤ sk.length; omega, hq9, by show l9.length ≤ 2 * (j + 1); omega, by show l9 ++ insF o (sk.drop (j + 1)) dd = R; rw [hl9, List.append_assoc]; exact hnext⟩
              · rw [hS]; show sk.length - (j + 1) < sk.length - j; omega
              · rw [hS]
                cbv
                (repeat (first | exact trivial | refine And.intro (Emb.Pur _ _) ?_ | refine And.intro (inc_eq A (by omega)) ?_ | refine And.intro rfl ?_ | refine And.intro pg ?_ | refine And.intro hvv.symm ?_ | refine And.intro hd17 ?_ | refine And.intro hy ?_ | refine And.intro hcut ?_ | refine And.intro hdd.symm ?_ | refine And.intro (G.kind.cut (by omega)) ?_ | refine And.intro (G.slot.cut (by omega)) ?_))
        · have h : sk.length ≤ j := lt_nf h rfl hlsk
          rw [List.drop_eq_nil_of_le h] at hRR
          cases d with
          | true =>
            rw [insF, List.append_nil] at hRR
            first
              | have hcut : Tw.Cut (E.int.l l) 0 q (E.int.l R) := by rw [← hRR, hlo]; exact E.int.cut hok
              | have hcut : ([] : List AV) = E.int.l R := by rw [← hRR, hlo]; exact E.int.nil.symm
            refine EW.vs [(16, .sl 1 (E.int.l R)), (17, .bool true), (15, .ref 4 3 0 0), (14, .ref 2 3 0 0), (13, .ref 0 2 0 0), (12, .bool false), (6, .imm [.sl 3 (G.kind.l ks), .int .i64 root]), (1, .int .i64 m), (2, .int .i64 ii), (3, .int .i64 more), (4, .int .i64 o), (5, .sl 1 (E.int.l kids))] [some (.box 2 (.agg [.row 1 3 0 q1, .int .i64 root])), some (.arr 3 (G.kind.l ks)), some (.box 3 (.agg [.str xn, .bool xt, .row 3 3 0 q2])), some (.arr 3 (G.slot.l ss)), some (.box 3 (.agg [.sl 1 (E.int.l sk), .int .i64 sl, .int .i64 v]))] 147 rfl ?_
            cbv
            (repeat (first | exact trivial | refine And.intro (Emb.Pur _ _) ?_ | refine And.intro (inc_eq A (by omega)) ?_ | refine And.intro rfl ?_ | refine And.intro pg ?_ | refine And.intro hvv.symm ?_ | refine And.intro hd17 ?_ | refine And.intro hy ?_ | refine And.intro hcut ?_ | refine And.intro hdd.symm ?_ | refine And.intro (G.kind.cut (by omega)) ?_ | refine And.intro (G.slot.cut (by omega)) ?_))
            obtain ⟨ss2, hss2⟩ : ∃ s, s = ss.set ii ⟨R, sl, v⟩ := ⟨_, rfl⟩
            have hset2 : G.slot.l ss2 = (G.slot.l ss).set ii (.agg [.sl 1 (E.int.l R), .int .i64 sl, .int .i64 v]) := by rw [hss2, ← G.slot.set, G.sv E]
            have hss2l : ss2.length = ss.length := by rw [hss2, List.length_set]
            ((try cbv) <;> (repeat ((with_reducible refine EW.of ?_); cbv)))
            refine ⟨ii, rfl, by omega, ?_⟩
            cbv
            refine ⟨_, G.slot.l ss2, (congrArg (fun j => (G.slot.l ss)[j]?) (z_add ii)).trans hgs, hset2.trans (congrArg (fun j => (G.slot.l ss).set j _) (z_add ii).symm), rfl, ?_⟩
            cbv
            refine EW.vs [(14, .ref 2 3 0 0), (13, .ref 0 2 0 0), (12, .bool false), (6, .imm [.sl 3 (G.kind.l ks), .int .i64 root]), (1, .int .i64 m), (2, .int .i64 ii), (3, .int .i64 more), (4, .int .i64 o), (5, .sl 1 (E.int.l kids))] [some (.box 2 (.agg [.row 1 3 0 q1, .int .i64 root])), some (.arr 3 (G.kind.l ks)), some (.box 3 (.agg [.str xn, .bool xt, .sl 3 (G.slot.l ss2)]))] 147 rfl ?_
            cbv
            (repeat (first | exact trivial | refine And.intro (Emb.Pur _ _) ?_ | refine And.intro (inc_eq A (by omega)) ?_ | refine And.intro rfl ?_ | refine And.intro pg ?_ | refine And.intro hvv.symm ?_ | refine And.intro hd17 ?_ | refine And.intro hy ?_ | refine And.intro hcut ?_ | refine And.intro hdd.symm ?_ | refine And.intro (G.kind.cut (by omega)) ?_ | refine And.intro (G.slot.cut (by omega)) ?_))
            obtain ⟨ks2, hks2⟩ : ∃ s, s = ks.set m ⟨xn, xt, ss2⟩ := ⟨_, rfl⟩
            have hset1 : G.kind.l ks2 = (G.kind.l ks).set m (.agg [.str xn, .bool xt, .sl 3 (G.slot.l ss2)]) := by rw [hks2, ← G.kind.set, G.kv]
            have hks2l : ks2.length = ks.length := by rw [hks2, List.length_set]
            have hw2 := hwide m ii xn xt ss ⟨sk, sl, sm⟩ hct hx hs d0 v hd hv2 ks2 (by rw [hks2, hss2, hR])
            have hRl : R.length ≤ 33 := by rw [hR]; have := (insF_len o sk d0).2; omega
            have hg2 : Gra.ok ⟨ks2, root⟩ := ⟨by show ks2.length ≤ _; omega, fun y hy => by
              rw [hks2] at hy
              rcases List.mem_or_eq_of_mem_set hy with hy | rfl
              · exact hg.slots y hy
              · refine ⟨by show ss2.length ≤ _; omega, fun z hz => ?_⟩
                have hz : z ∈ ss2 := hz
                rw [hss2] at hz
                rcases List.mem_or_eq_of_mem_set hz with hz | rfl
                · exact hslots.2 z hz
                · show R.length ≤ _
                  omega⟩
            have k14 := h14 ks2 hg2
            rw [hw2.1] at k14
            replace k14 : TPure P 14 [.agg [.sl 3 (G.kind.l ks2), .int .i64 root]] (.int .i64 0) := k14
            have k12 := h12b ks2 m hg2
            rw [hw2.2 kids hfb.symm] at k12
            ((try cbv) <;> (repeat ((with_reducible refine EW.of ?_); cbv)))
            refine ⟨m, rfl, hmk, ?_⟩
            cbv
            refine ⟨_, G.kind.l ks2, (congrArg (fun j => (G.kind.l ks)[j]?) (z_add m)).trans hgx, hset1.trans (congrArg (fun j => (G.kind.l ks).set j _) (z_add m).symm), rfl, ?_⟩
            cbv
            refine EW.vs [(13, .ref 0 2 0 0), (12, .bool false), (6, .imm [.sl 3 (G.kind.l ks), .int .i64 root]), (1, .int .i64 m), (2, .int .i64 ii), (3, .int .i64 more), (4, .int .i64 o), (5, .sl 1 (E.int.l kids))] [some (.box 2 (.agg [.sl 3 (G.kind.l ks2), .int .i64 root]))] 147 rfl ?_
            cbv
            (repeat (first | exact trivial | refine And.intro (Emb.Pur _ _) ?_ | refine And.intro (inc_eq A (by omega)) ?_ | refine And.intro rfl ?_ | refine And.intro pg ?_ | refine And.intro hvv.symm ?_ | refine And.intro hd17 ?_ | refine And.intro hy ?_ | refine And.intro hcut ?_ | refine And.intro hdd.symm ?_ | refine And.intro (G.kind.cut (by omega)) ?_ | refine And.intro (G.slot.cut (by omega)) ?_))
            ((try cbv) <;> (repeat ((with_reducible refine EW.of ?_); cbv)))
            (refine ⟨Ent.of (hP ▸ Try.func14) rfl, ?_⟩; refine TC.pureE k14 ?_; cbv; (repeat (first | exact trivial | refine And.intro (Emb.Pur _ _) ?_ | refine And.intro rfl ?_ | refine And.intro (Pur.mk rfl) ?_ | refine And.intro (Pur.mk (by assumption)) ?_)); ((try cbv) <;> (repeat ((with_reducible refine EW.of ?_); cbv))))
            (first | refine byes (eqT rfl) ?_ | refine byes (beqT rfl) ?_)
            ((try cbv) <;> (repeat ((with_reducible refine EW.of ?_); cbv)))
            (refine ⟨Ent.of (hP ▸ Try.func12) rfl, ?_⟩; refine TC.pureE k12 ?_; cbv; (repeat (first | exact trivial | refine And.intro (Emb.Pur _ _) ?_ | refine And.intro rfl ?_ | refine And.intro (Pur.mk rfl) ?_ | refine And.intro (Pur.mk (by assumption)) ?_)); ((try cbv) <;> (repeat ((with_reducible refine EW.of ?_); cbv))))
            ((try cbv) <;> (repeat ((with_reducible refine EW.of ?_); cbv)))
            (refine ⟨Ent.of (hP ▸ Try.func11) rfl, ?_⟩; refine TC.pureE h11 ?_; cbv; (repeat (first | exact trivial | refine And.intro (Emb.Pur _ _) ?_ | refine And.intro rfl ?_ | refine And.intro (Pur.mk rfl) ?_ | refine And.intro (Pur.mk (by assumption)) ?_)); ((try cbv) <;> (repeat ((with_reducible refine EW.of ?_); cbv))))
          | false =>
            rw [insF] at hRR
            obtain ⟨y, hy⟩ : ∃ y, y = o := ⟨_, rfl⟩
            obtain ⟨l9, hl9⟩ : ∃ d, d = lo ++ [y] := ⟨_, rfl⟩
            obtain ⟨q9, hq9⟩ : ∃ q, q = l9.length := ⟨_, rfl⟩
            have hlen9 : l9.length = lo.length + 1 := by rw [hl9]; simp
            have hcut : Tw.Cut (E.int.l l9) 0 q9 (E.int.l R) := by rw [← hRR, ← hy, ← hl9]; exact E.int.cut hq9
            rw [← hy]
            ((try cbv) <;> (repeat ((with_reducible refine EW.of ?_); cbv)))
            first
              | refine ⟨⟨rfl⟩, q9, E.int.l l9, by rw [hq9, hl9, hlo]; first | done | rfl, by rw [hl9, hlo, List.nil_append, E.int.cons, E.int.nil, E.iv]; first | done | rfl, Nat.zero_le _, by omega, by omega, ?_⟩
              | refine ⟨⟨rfl⟩, q9, E.int.l l9, by rw [hq9, hl9, hlo, hok]; simp, by rw [hl9, hlo, E.int.app, E.int.cons, E.int.nil, E.iv, List.take_of_length_le (by rw [E.int.len, hok]; exact Nat.le_refl _)], by rw [E.int.len, hok]; exact Nat.le_refl _, by omega, by omega, ?_⟩
            cbv
            refine EW.vs [(16, .sl 1 (E.int.l R)), (17, .bool false), (15, .ref 4 3 0 0), (14, .ref 2 3 0 0), (13, .ref 0 2 0 0), (12, .bool false), (6, .imm [.sl 3 (G.kind.l ks), .int .i64 root]), (1, .int .i64 m), (2, .int .i64 ii), (3, .int .i64 more), (4, .int .i64 o), (5, .sl 1 (E.int.l kids))] [some (.box 2 (.agg [.row 1 3 0 q1, .int .i64 root])), some (.arr 3 (G.kind.l ks)), some (.box 3 (.agg [.str xn, .bool xt, .row 3 3 0 q2])), some (.arr 3 (G.slot.l ss)), some (.box 3 (.agg [.sl 1 (E.int.l sk), .int .i64 sl, .int .i64 v]))] 147 rfl ?_
            cbv
            (repeat (first | exact trivial | refine And.intro (Emb.Pur _ _) ?_ | refine And.intro (inc_eq A (by omega)) ?_ | refine And.intro rfl ?_ | refine And.intro pg ?_ | refine And.intro hvv.symm ?_ | refine And.intro hd17 ?_ | refine And.intro hy ?_ | refine And.intro hcut ?_ | refine And.intro hdd.symm ?_ | refine And.intro (G.kind.cut (by omega)) ?_ | refine And.intro (G.slot.cut (by omega)) ?_))
            obtain ⟨ss2, hss2⟩ : ∃ s, s = ss.set ii ⟨R, sl, v⟩ := ⟨_, rfl⟩
            have hset2 : G.slot.l ss2 = (G.slot.l ss).set ii (.agg [.sl 1 (E.int.l R), .int .i64 sl, .int .i64 v]) := by rw [hss2, ← G.slot.set, G.sv E]
            have hss2l : ss2.length = ss.length := by rw [hss2, List.length_set]
            ((try cbv) <;> (repeat ((with_reducible refine EW.of ?_); cbv)))
            refine ⟨ii, rfl, by omega, ?_⟩
            cbv
            refine ⟨_, G.slot.l ss2, (congrArg (fun j => (G.slot.l ss)[j]?) (z_add ii)).trans hgs, hset2.trans (congrArg (fun j => (G.slot.l ss).set j _) (z_add ii).symm), rfl, ?_⟩
            cbv
            refine EW.vs [(14, .ref 2 3 0 0), (13, .ref 0 2 0 0), (12, .bool false), (6, .imm [.sl 3 (G.kind.l ks), .int .i64 root]), (1, .int .i64 m), (2, .int .i64 ii), (3, .int .i64 more), (4, .int .i64 o), (5, .sl 1 (E.int.l kids))] [some (.box 2 (.agg [.row 1 3 0 q1, .int .i64 root])), some (.arr 3 (G.kind.l ks)), some (.box 3 (.agg [.str xn, .bool xt, .sl 3 (G.slot.l ss2)]))] 147 rfl ?_
            cbv
            (repeat (first | exact trivial | refine And.intro (Emb.Pur _ _) ?_ | refine And.intro (inc_eq A (by omega)) ?_ | refine And.intro rfl ?_ | refine And.intro pg ?_ | refine And.intro hvv.symm ?_ | refine And.intro hd17 ?_ | refine And.intro hy ?_ | refine And.intro hcut ?_ | refine And.intro hdd.symm ?_ | refine And.intro (G.kind.cut (by omega)) ?_ | refine And.intro (G.slot.cut (by omega)) ?_))
            obtain ⟨ks2, hks2⟩ : ∃ s, s = ks.set m ⟨xn, xt, ss2⟩ := ⟨_, rfl⟩
            have hset1 : G.kind.l ks2 = (G.kind.l ks).set m (.agg [.str xn, .bool xt, .sl 3 (G.slot.l ss2)]) := by rw [hks2, ← G.kind.set, G.kv]
            have hks2l : ks2.length = ks.length := by rw [hks2, List.length_set]
            have hw2 := hwide m ii xn xt ss ⟨sk, sl, sm⟩ hct hx hs d0 v hd hv2 ks2 (by rw [hks2, hss2, hR])
            have hRl : R.length ≤ 33 := by rw [hR]; have := (insF_len o sk d0).2; omega
            have hg2 : Gra.ok ⟨ks2, root⟩ := ⟨by show ks2.length ≤ _; omega, fun y hy => by
              rw [hks2] at hy
              rcases List.mem_or_eq_of_mem_set hy with hy | rfl
              · exact hg.slots y hy
              · refine ⟨by show ss2.length ≤ _; omega, fun z hz => ?_⟩
                have hz : z ∈ ss2 := hz
                rw [hss2] at hz
                rcases List.mem_or_eq_of_mem_set hz with hz | rfl
                · exact hslots.2 z hz
                · show R.length ≤ _
                  omega⟩
            have k14 := h14 ks2 hg2
            rw [hw2.1] at k14
            replace k14 : TPure P 14 [.agg [.sl 3 (G.kind.l ks2), .int .i64 root]] (.int .i64 0) := k14
            have k12 := h12b ks2 m hg2
            rw [hw2.2 kids hfb.symm] at k12
            ((try cbv) <;> (repeat ((with_reducible refine EW.of ?_); cbv)))
            refine ⟨m, rfl, hmk, ?_⟩
            cbv
            refine ⟨_, G.kind.l ks2, (congrArg (fun j => (G.kind.l ks)[j]?) (z_add m)).trans hgx, hset1.trans (congrArg (fun j => (G.kind.l ks).set j _) (z_add m).symm), rfl, ?_⟩
            cbv
            refine EW.vs [(13, .ref 0 2 0 0), (12, .bool false), (6, .imm [.sl 3 (G.kind.l ks), .int .i64 root]), (1, .int .i64 m), (2, .int .i64 ii), (3, .int .i64 more), (4, .int .i64 o), (5, .sl 1 (E.int.l kids))] [some (.box 2 (.agg [.sl 3 (G.kind.l ks2), .int .i64 root]))] 147 rfl ?_
            cbv
            (repeat (first | exact trivial | refine And.intro (Emb.Pur _ _) ?_ | refine And.intro (inc_eq A (by omega)) ?_ | refine And.intro rfl ?_ | refine And.intro pg ?_ | refine And.intro hvv.symm ?_ | refine And.intro hd17 ?_ | refine And.intro hy ?_ | refine And.intro hcut ?_ | refine And.intro hdd.symm ?_ | refine And.intro (G.kind.cut (by omega)) ?_ | refine And.intro (G.slot.cut (by omega)) ?_))
            ((try cbv) <;> (repeat ((with_reducible refine EW.of ?_); cbv)))
            (refine ⟨Ent.of (hP ▸ Try.func14) rfl, ?_⟩; refine TC.pureE k14 ?_; cbv; (repeat (first | exact trivial | refine And.intro (Emb.Pur _ _) ?_ | refine And.intro rfl ?_ | refine And.intro (Pur.mk rfl) ?_ | refine And.intro (Pur.mk (by assumption)) ?_)); ((try cbv) <;> (repeat ((with_reducible refine EW.of ?_); cbv))))
            (first | refine byes (eqT rfl) ?_ | refine byes (beqT rfl) ?_)
            ((try cbv) <;> (repeat ((with_reducible refine EW.of ?_); cbv)))
            (refine ⟨Ent.of (hP ▸ Try.func12) rfl, ?_⟩; refine TC.pureE k12 ?_; cbv; (repeat (first | exact trivial | refine And.intro (Emb.Pur _ _) ?_ | refine And.intro rfl ?_ | refine And.intro (Pur.mk rfl) ?_ | refine And.intro (Pur.mk (by assumption)) ?_)); ((try cbv) <;> (repeat ((with_reducible refine EW.of ?_); cbv))))
            ((try cbv) <;> (repeat ((with_reducible refine EW.of ?_); cbv)))
            (refine ⟨Ent.of (hP ▸ Try.func11) rfl, ?_⟩; refine TC.pureE h11 ?_; cbv; (repeat (first | exact trivial | refine And.intro (Emb.Pur _ _) ?_ | refine And.intro rfl ?_ | refine And.intro (Pur.mk rfl) ?_ | refine And.intro (Pur.mk (by assumption)) ?_)); ((try cbv) <;> (repeat ((with_reducible refine EW.of ?_); cbv))))
end Go.Proofs.Ytlngpfocngfokaa
