import Derived.Test.YtpjibokaeefhiaaOt
/-! A tick of ages, walked. -/
namespace Go.Proofs.Ytpjibokaeefhiaa
open Go.Proofs.Ytpjibokaeefhiaa.Tw
def stI (E : Em) (L : Store) : Option (Nat × List Int) → Store
  | none => L
  | some (_, done) => L ++ [some (.arr 1 (E.int.l done))]
def rowI (p : Nat) : Option (Nat × List Int) → AV
  | none => .nils
  | some (n, _) => .row p 1 0 n
def outI : Option (Nat × List Int) → List Int
  | none => []
  | some (_, done) => done
def lenI : Option (Nat × List Int) → Prop
  | none => True
  | some (m, done) => m = done.length
theorem OkE.more {c : Nat} {m : List Ent3} {K K' : Int} (h : OkE c m K) (hK : K ≤ K') : OkE c m K' := ⟨h.born, h.lt, h.keys, h.lo, fun x hx => Int.le_trans (h.hi x hx) hK⟩
set_option maxHeartbeats 2000000 in
theorem Tick42 (A : Ar) (E : Em) (F : EmL) (G : EmE) {P : Program} (hP : P = Try.prog) (l : List Lease) (hl : l.length ≤ 1000000) (term : Int) (c : Nat) (m : List Ent3) (K : Int) (hK0 : 0 ≤ K) (hK : K ≤ 1000000000000) (hm : OkE c m K)
    (c' : Nat) (m' : List Ent3) (out : List Int) (hres : tickS term l c m = (c', m', out)) :
    TC1 P 42 [.ref 0 2 0 0, .sl 5 (F.l.l l)] [some (.box 2 (.agg [.map 1, .int .i64 term])), some (.mp c (G.l m))] (.sl 1 (E.int.l out)) [some (.box 2 (.agg [.map 1, .int .i64 term])), some (.mp c' (G.l m'))] := by
  refine TC1.of A _ _ T0 (T0_ok hP) (hP ▸ Try.func42) rfl _ rfl (by simp) ?_
  have hpl := F.l.purL l
  cbv
  with_reducible refine EW.of ?_
  cbv
  with_reducible refine EW.of ?_
  cbv
  refine EW.vs [(4, .nils), (3, .imm [.sl 5 (F.l.l l)]), (0, .ref 0 2 0 0)] [some (.box 2 (.agg [.map 1, .int .i64 term])), some (.mp c (G.l m))] 64 rfl ?_
  cbv
  refine And.intro (G.pur _) (And.intro rfl (And.intro ⟨by (repeat (first | exact rfl | exact Emb.purL _ _ | assumption | apply pur_cons | apply pur_sl | apply pur_slt | apply pur_agg | apply pur_tup))⟩ ?_))
  have h69 := forget69 A G hP 70 [.imm [.sl 5 (F.l.l l)]] (fun i => l.any fun x => decide (x.id = i)) (by (repeat (first | exact rfl | exact Emb.purL _ _ | assumption | apply pur_cons | apply pur_sl | apply pur_slt | apply pur_agg | apply pur_tup))) (Ent.of (hP ▸ Try.func70) rfl) (fun i => told70 A E F hP l hl i) c m hm.born hm.lt hm.keys
  unfold tickS at hres
  have hm1 := hm.filter (fun x => l.any fun y => decide (y.id = x.2.1))
  generalize m.filter (fun x => l.any fun y => decide (y.id = x.2.1)) = m1 at h69 hres hm1
  ((try cbv) <;> (repeat ((with_reducible refine EW.of ?_); cbv)))
  refine And.intro (Ent.of (hP ▸ Try.func69) rfl) ?_
  refine TC1.call [1] h69 ?_
  cbv
  (repeat (first | exact trivial | refine And.intro (Emb.Pur _ _) ?_ | refine And.intro rfl ?_ | refine And.intro (Pur.mk rfl) ?_ | refine And.intro (Pur.mk (by assumption)) ?_))
  refine And.intro (G.pur _) (And.intro (F.l.Pur _) (And.intro (G.pur _) ?_))
  ((try cbv) <;> (repeat ((with_reducible refine EW.of ?_); cbv)))
  obtain ⟨S, hS⟩ : ∃ S : LI (Nat × Nat × List Ent3 × Option (Nat × List Int)), S = ⟨fun x => [(19, .int .i64 x.1), (18, .int .i64 (A.len (F.l.l l))), (17, .sl 5 (F.l.l l)), (4, rowI 2 x.2.2.2), (3, .imm [.sl 5 (F.l.l l)]), (0, .ref 0 2 0 0)], fun x => stI E [some (.box 2 (.agg [.map 1, .int .i64 term])), some (.mp x.2.1 (G.l x.2.2.1))] x.2.2.2,
    fun x => x.1 ≤ l.length ∧ OkE x.2.1 x.2.2.1 (K + x.1) ∧ lenI x.2.2.2 ∧ (outI x.2.2.2).length ≤ x.1 ∧ runE term (l.take x.1) (x.2.1, x.2.2.1, outI x.2.2.2) (l.drop x.1) = (c', m', out), fun x => l.length - x.1⟩ := ⟨_, rfl⟩
  refine TW.loopM A (T0_ok hP) S _ rfl (0, c, m1, none) ?_ ?_ ?_
  · rw [hS]; exact ⟨Nat.zero_le _, by simpa using hm1, trivial, Nat.zero_le _, by simpa [outI] using hres⟩
  · rw [hS]; cbv; (repeat (first | exact trivial | refine And.intro (Emb.Pur _ _) ?_ | refine And.intro rfl ?_ | refine And.intro (Pur.mk rfl) ?_ | refine And.intro (Pur.mk (by assumption)) ?_)); exact ⟨G.pur _, rfl, F.l.Pur _, F.l.Pur _, trivial⟩
  rintro ⟨j, c2, m2, o⟩ hj l1 L1 e1 e2
  rw [hS] at hj e1 e2
  dsimp only at hj e1 e2
  obtain ⟨hj, hok, hoi, hol, hrun⟩ := hj
  subst e1
  obtain ⟨oo, hoe⟩ : ∃ oo, oo = o := ⟨_, rfl⟩
  have hoo : outI oo = outI o := by rw [hoe]
  have hol2 : lenI oo := hoe ▸ hoi
  cases o with
  | none =>
    dsimp only [stI, rowI, outI] at e2 hrun hol ⊢
    subst e2
    cbv
    ((try cbv) <;> (repeat ((with_reducible refine EW.of ?_); cbv)))
    refine bsplit (fun h => ?_) (fun h => ?_)
    · have h : j < (F.l.l l).length := lt_nt h rfl (A.ok_len _)
      have hll := F.l.len l
      obtain ⟨x, hx⟩ : ∃ x, l[j]? = some x := ⟨_, List.getElem?_eq_getElem (by omega)⟩
      rw [runE_drop term _ hx] at hrun
      unfold tickE at hrun
      obtain ⟨x1, x2, x3, x4, x5⟩ := x
      ((try cbv) <;> (repeat ((with_reducible refine EW.of ?_); cbv)))
      refine ⟨j, _, rfl, F.get hx, ?_⟩
      cbv
      ((try cbv) <;> (repeat ((with_reducible refine EW.of ?_); cbv)))
      obtain ⟨lj, hlj⟩ : ∃ lj, lj = l.take j := ⟨_, rfl⟩
      have h49 := Find49 A E F hP lj (by rw [hlj]; simp; omega) x1
      dsimp only at hrun
      rw [← hlj] at hrun
      obtain ⟨w, hw⟩ : ∃ w, lj.find? (fun x => decide (x.id = x1)) = w := ⟨_, rfl⟩
      rw [hw] at h49 hrun
      unfold EmL.found at h49
      generalize hwb : w.isSome = wb at h49 hrun
      generalize w.getD lease0 = u at h49
      obtain ⟨u1, u2, u3, u4, u5⟩ := u
      rw [F.row] at h49
      (refine TW.drawP (A := A) [(10, [some (.box 5 (.agg [.int .i64 0, .int .i64 0, .int .i64 0, .int .i64 0, .int .i64 0]))]), (11, [some (.box 5 (.agg [.int .i64 u1, .int .i64 u2, .int .i64 u3, .int .i64 u4, .int .i64 u5]))])] (T0_ok hP) (hP ▸ follows_mixed) (by cbv) rfl (by cbv) (by cbv) (by cbv) rfl rfl rfl ?_; cbv)
      refine ⟨j, rfl, j, rfl, rfl, F.l.l lj, by rw [List.drop_zero, hlj]; exact (F.l.take l j).symm, Nat.zero_le _, (show j ≤ (F.l.l l).length by omega), ?_⟩
      cbv
      (refine ⟨Ent.of (hP ▸ Try.func49) rfl, ?_⟩; refine ⟨_, ⟨TPure.adj h49 (by cbv; (repeat (first | exact trivial | refine And.intro (Emb.Pur _ _) ?_ | refine And.intro rfl ?_ | refine And.intro (Pur.mk rfl) ?_ | refine And.intro (Pur.mk (by assumption)) ?_))), by (repeat (first | exact rfl | exact Emb.purL _ _ | assumption | apply pur_cons | apply pur_sl | apply pur_slt | apply pur_agg | apply pur_tup))⟩, ?_⟩; cbv)
      refine ⟨rfl, ⟨rfl, ?_⟩⟩
      ((try cbv) <;> (repeat ((with_reducible refine EW.of ?_); cbv)))
      cases wb with
      | true =>
        rw [if_pos rfl] at hrun
        ((try cbv) <;> (repeat ((with_reducible refine EW.of ?_); cbv)))
        refine LM.of (j + 1, c2, m2, oo) rfl ?_ ?_ ?_
        · rw [hS]; exact ⟨by show j + 1 ≤ _; omega, hok.more (by show K + (j : Int) ≤ K + ((j + 1 : Nat) : Int); omega), hol2, Nat.le_trans (Nat.le_of_eq (congrArg List.length hoo)) (Nat.le_succ_of_le hol), by rw [hoo]; exact hrun⟩
        · rw [hS]; show l.length - (j + 1) < l.length - j; omega
        · rw [hS, hoe]; cbv; (repeat (first | exact trivial | refine And.intro (G.pur _) ?_ | refine And.intro (Emb.Pur _ _) ?_ | refine And.intro (inc_eq A (by omega)) ?_ | refine And.intro rfl ?_))
      | false =>
        rw [if_neg (by decide)] at hrun
        obtain ⟨ag, hag⟩ : ∃ ag, ag = ageE x1 m2 := ⟨_, rfl⟩
        have hagb := OkE.age (c := c2) (K := K + j) (k := x1) (by omega) hok.lo hok.hi
        rw [← hag] at hagb hrun
        obtain ⟨a1, ha1⟩ : ∃ a1, a1 = ag + 1 := ⟨_, rfl⟩
        rw [← ha1] at hrun
        obtain ⟨c3, hc3⟩ : ∃ c3, c3 = (upE c2 x1 a1 m2).1 := ⟨_, rfl⟩
        obtain ⟨m3, hm3⟩ : ∃ m3, m3 = (upE c2 x1 a1 m2).2 := ⟨_, rfl⟩
        have hj1 : K + (j : Int) ≤ K + ((j + 1 : Nat) : Int) := by omega
        have hj2 : a1 ≤ K + ((j + 1 : Nat) : Int) := by omega
        have hok3 : OkE c3 m3 (K + ((j + 1 : Nat) : Int)) := by rw [hc3, hm3]; exact hok.up x1 hj1 (by omega) hj2
        rw [← hc3, ← hm3] at hrun
        have hup : upA c2 (.int .i64 x1) (.int .i64 a1) (G.l m2) = (c3, G.l m3) := by rw [G.ok, up_ent, ← hc3, ← hm3, G.ok]
        have hlk3 : lkA (.int .i64 x1) (G.l m3) = some (.int .i64 a1) := by rw [G.ok, hm3, lk_up]
        clear hc3 hm3
        have hadd : A.op .add .i64 ag 1 = a1 := by rw [add_i64 rfl rfl (by omega) (by omega), ha1]
        have hage : (lkA (.int .i64 x1) (G.l m2)).getD (.int .i64 0) = .int .i64 ag := by rw [hag, G.ok]; exact age_ent x1 m2
        obtain ⟨o1, ho1⟩ : ∃ o, lkA (.int .i64 x1) (G.l m2) = o := ⟨_, rfl⟩
        rw [ho1] at hage
        have hkeys : Keys (.int .i64) (.int .i64 x1) (G.l m2) := ⟨rfl, fun x hx => by
          rw [G.ok] at hx
          obtain ⟨y, _, rfl⟩ := List.mem_map.1 hx
          rfl⟩
        have hkeys3 : Keys (.int .i64) (.int .i64 x1) (G.l m3) := ⟨rfl, fun x hx => by
          rw [G.ok] at hx
          obtain ⟨y, _, rfl⟩ := List.mem_map.1 hx
          rfl⟩
        ((try cbv) <;> (repeat ((with_reducible refine EW.of ?_); cbv)))
        (refine TW.drawT (A := A) (T0_ok hP) (hP ▸ follows_mixed) (by cbv) rfl (by cbv) rfl rfl rfl ?_; cbv)
        refine And.intro hkeys ⟨o1, ho1, ?_⟩
        cases o1 with
        | none =>
          obtain rfl : ag = 0 := by
            have h9 : AV.int .i64 0 = .int .i64 ag := hage
            exact (AV.int.inj h9).2.symm
          replace hup : upA c2 (.int .i64 x1) (.int .i64 (A.op .add .i64 0 1)) (G.l m2) = (c3, G.l m3) := by rw [hadd]; exact hup
          cbv
          refine And.intro hkeys ⟨c3, G.l m3, hup, ?_⟩
          ((try cbv) <;> (repeat ((with_reducible refine EW.of ?_); cbv)))
          (refine TW.draw (A := A) (T0_ok hP) (hP ▸ follows_mixed) (by kernel_rfl) rfl ?_; cbv)
          refine And.intro hkeys3 ⟨_, hlk3, ?_⟩
          ((try cbv) <;> (repeat ((with_reducible refine EW.of ?_); cbv)))
          by_cases h9 : term ≤ a1
          · rw [if_pos h9] at hrun
            refine byes (leT h9) ?_
            obtain ⟨done1, hd1⟩ : ∃ d, d = [] ++ [x1] := ⟨_, rfl⟩
            rw [← hd1] at hrun
            obtain ⟨q1, hq1⟩ : ∃ q, q = done1.length := ⟨_, rfl⟩
            have hd1l : done1.length ≤ j + 1 := by rw [hd1]; simp <;> omega
            ((try cbv) <;> (repeat ((with_reducible refine EW.of ?_); cbv)))
            refine ⟨⟨rfl⟩, q1, E.int.l done1, by rw [hq1, hd1]; rfl, by rw [hd1]; simp only [List.nil_append, E.int.cons, E.iv, E.int.nil]; rfl, Nat.zero_le _, ?_, ?_, ?_⟩
            · rw [hq1, hd1]; simp
            · rw [hq1, hd1]; simp
            cbv
            ((try cbv) <;> (repeat ((with_reducible refine EW.of ?_); cbv)))
            refine LM.of (j + 1, c3, m3, some (q1, done1)) rfl ?_ ?_ ?_
            · rw [hS]; exact ⟨by show j + 1 ≤ _; omega, hok3, hq1, hd1l, hrun⟩
            · rw [hS]; show l.length - (j + 1) < l.length - j; omega
            · rw [hS]; cbv; (repeat (first | exact trivial | refine And.intro (G.pur _) ?_ | refine And.intro (Emb.Pur _ _) ?_ | refine And.intro (inc_eq A (by omega)) ?_ | refine And.intro rfl ?_))
          · rw [if_neg h9] at hrun
            refine bno (leF (by omega)) ?_
            ((try cbv) <;> (repeat ((with_reducible refine EW.of ?_); cbv)))
            refine LM.of (j + 1, c3, m3, oo) rfl ?_ ?_ ?_
            · rw [hS]; exact ⟨by show j + 1 ≤ _; omega, hok3, hol2, Nat.le_trans (Nat.le_of_eq (congrArg List.length hoo)) (Nat.le_succ_of_le hol), by rw [hoo]; exact hrun⟩
            · rw [hS]; show l.length - (j + 1) < l.length - j; omega
            · rw [hS, hoe]; cbv; (repeat (first | exact trivial | refine And.intro (G.pur _) ?_ | refine And.intro (Emb.Pur _ _) ?_ | refine And.intro (inc_eq A (by omega)) ?_ | refine And.intro rfl ?_))
        | some v =>
          obtain rfl : v = .int .i64 ag := hage
          replace hup : upA c2 (.int .i64 x1) (.int .i64 (A.op .add .i64 ag 1)) (G.l m2) = (c3, G.l m3) := by rw [hadd]; exact hup
          cbv
          refine And.intro hkeys ⟨c3, G.l m3, hup, ?_⟩
          ((try cbv) <;> (repeat ((with_reducible refine EW.of ?_); cbv)))
          (refine TW.draw (A := A) (T0_ok hP) (hP ▸ follows_mixed) (by kernel_rfl) rfl ?_; cbv)
          refine And.intro hkeys3 ⟨_, hlk3, ?_⟩
          ((try cbv) <;> (repeat ((with_reducible refine EW.of ?_); cbv)))
          by_cases h9 : term ≤ a1
          · rw [if_pos h9] at hrun
            refine byes (leT h9) ?_
            obtain ⟨done1, hd1⟩ : ∃ d, d = [] ++ [x1] := ⟨_, rfl⟩
            rw [← hd1] at hrun
            obtain ⟨q1, hq1⟩ : ∃ q, q = done1.length := ⟨_, rfl⟩
            have hd1l : done1.length ≤ j + 1 := by rw [hd1]; simp <;> omega
            ((try cbv) <;> (repeat ((with_reducible refine EW.of ?_); cbv)))
            refine ⟨⟨rfl⟩, q1, E.int.l done1, by rw [hq1, hd1]; rfl, by rw [hd1]; simp only [List.nil_append, E.int.cons, E.iv, E.int.nil]; rfl, Nat.zero_le _, ?_, ?_, ?_⟩
            · rw [hq1, hd1]; simp
            · rw [hq1, hd1]; simp
            cbv
            ((try cbv) <;> (repeat ((with_reducible refine EW.of ?_); cbv)))
            refine LM.of (j + 1, c3, m3, some (q1, done1)) rfl ?_ ?_ ?_
            · rw [hS]; exact ⟨by show j + 1 ≤ _; omega, hok3, hq1, hd1l, hrun⟩
            · rw [hS]; show l.length - (j + 1) < l.length - j; omega
            · rw [hS]; cbv; (repeat (first | exact trivial | refine And.intro (G.pur _) ?_ | refine And.intro (Emb.Pur _ _) ?_ | refine And.intro (inc_eq A (by omega)) ?_ | refine And.intro rfl ?_))
          · rw [if_neg h9] at hrun
            refine bno (leF (by omega)) ?_
            ((try cbv) <;> (repeat ((with_reducible refine EW.of ?_); cbv)))
            refine LM.of (j + 1, c3, m3, oo) rfl ?_ ?_ ?_
            · rw [hS]; exact ⟨by show j + 1 ≤ _; omega, hok3, hol2, Nat.le_trans (Nat.le_of_eq (congrArg List.length hoo)) (Nat.le_succ_of_le hol), by rw [hoo]; exact hrun⟩
            · rw [hS]; show l.length - (j + 1) < l.length - j; omega
            · rw [hS, hoe]; cbv; (repeat (first | exact trivial | refine And.intro (G.pur _) ?_ | refine And.intro (Emb.Pur _ _) ?_ | refine And.intro (inc_eq A (by omega)) ?_ | refine And.intro rfl ?_))
    · have h : (F.l.l l).length ≤ j := lt_nf h rfl (A.ok_len _)
      have hll := F.l.len l
      rw [List.drop_eq_nil_of_le (show l.length ≤ j by omega)] at hrun
      unfold runE at hrun
      cases hrun
      ((try cbv) <;> (repeat ((with_reducible refine EW.of ?_); cbv)))
      refine R1.of ?_
      cbv
      exact And.intro (G.pur _) (And.intro E.int.nil.symm trivial)
  | some x =>
    obtain ⟨q, done⟩ := x
    dsimp only [stI, rowI, outI] at e2 hrun hol ⊢
    replace hoi : q = done.length := hoi
    subst e2
    cbv
    ((try cbv) <;> (repeat ((with_reducible refine EW.of ?_); cbv)))
    refine bsplit (fun h => ?_) (fun h => ?_)
    · have h : j < (F.l.l l).length := lt_nt h rfl (A.ok_len _)
      have hll := F.l.len l
      obtain ⟨x, hx⟩ : ∃ x, l[j]? = some x := ⟨_, List.getElem?_eq_getElem (by omega)⟩
      rw [runE_drop term _ hx] at hrun
      unfold tickE at hrun
      obtain ⟨x1, x2, x3, x4, x5⟩ := x
      ((try cbv) <;> (repeat ((with_reducible refine EW.of ?_); cbv)))
      refine ⟨j, _, rfl, F.get hx, ?_⟩
      cbv
      ((try cbv) <;> (repeat ((with_reducible refine EW.of ?_); cbv)))
      obtain ⟨lj, hlj⟩ : ∃ lj, lj = l.take j := ⟨_, rfl⟩
      have h49 := Find49 A E F hP lj (by rw [hlj]; simp; omega) x1
      dsimp only at hrun
      rw [← hlj] at hrun
      obtain ⟨w, hw⟩ : ∃ w, lj.find? (fun x => decide (x.id = x1)) = w := ⟨_, rfl⟩
      rw [hw] at h49 hrun
      unfold EmL.found at h49
      generalize hwb : w.isSome = wb at h49 hrun
      generalize w.getD lease0 = u at h49
      obtain ⟨u1, u2, u3, u4, u5⟩ := u
      rw [F.row] at h49
      (refine TW.drawP (A := A) [(10, [some (.box 5 (.agg [.int .i64 0, .int .i64 0, .int .i64 0, .int .i64 0, .int .i64 0]))]), (11, [some (.box 5 (.agg [.int .i64 u1, .int .i64 u2, .int .i64 u3, .int .i64 u4, .int .i64 u5]))])] (T0_ok hP) (hP ▸ follows_mixed) (by cbv) rfl (by cbv) (by cbv) (by cbv) rfl rfl rfl ?_; cbv)
      refine ⟨j, rfl, j, rfl, rfl, F.l.l lj, by rw [List.drop_zero, hlj]; exact (F.l.take l j).symm, Nat.zero_le _, (show j ≤ (F.l.l l).length by omega), ?_⟩
      cbv
      (refine ⟨Ent.of (hP ▸ Try.func49) rfl, ?_⟩; refine ⟨_, ⟨TPure.adj h49 (by cbv; (repeat (first | exact trivial | refine And.intro (Emb.Pur _ _) ?_ | refine And.intro rfl ?_ | refine And.intro (Pur.mk rfl) ?_ | refine And.intro (Pur.mk (by assumption)) ?_))), by (repeat (first | exact rfl | exact Emb.purL _ _ | assumption | apply pur_cons | apply pur_sl | apply pur_slt | apply pur_agg | apply pur_tup))⟩, ?_⟩; cbv)
      refine ⟨rfl, ⟨rfl, ?_⟩⟩
      ((try cbv) <;> (repeat ((with_reducible refine EW.of ?_); cbv)))
      cases wb with
      | true =>
        rw [if_pos rfl] at hrun
        ((try cbv) <;> (repeat ((with_reducible refine EW.of ?_); cbv)))
        refine LM.of (j + 1, c2, m2, oo) rfl ?_ ?_ ?_
        · rw [hS]; exact ⟨by show j + 1 ≤ _; omega, hok.more (by show K + (j : Int) ≤ K + ((j + 1 : Nat) : Int); omega), hol2, Nat.le_trans (Nat.le_of_eq (congrArg List.length hoo)) (Nat.le_succ_of_le hol), by rw [hoo]; exact hrun⟩
        · rw [hS]; show l.length - (j + 1) < l.length - j; omega
        · rw [hS, hoe]; cbv; (repeat (first | exact trivial | refine And.intro (G.pur _) ?_ | refine And.intro (Emb.Pur _ _) ?_ | refine And.intro (inc_eq A (by omega)) ?_ | refine And.intro rfl ?_))
      | false =>
        rw [if_neg (by decide)] at hrun
        obtain ⟨ag, hag⟩ : ∃ ag, ag = ageE x1 m2 := ⟨_, rfl⟩
        have hagb := OkE.age (c := c2) (K := K + j) (k := x1) (by omega) hok.lo hok.hi
        rw [← hag] at hagb hrun
        obtain ⟨a1, ha1⟩ : ∃ a1, a1 = ag + 1 := ⟨_, rfl⟩
        rw [← ha1] at hrun
        obtain ⟨c3, hc3⟩ : ∃ c3, c3 = (upE c2 x1 a1 m2).1 := ⟨_, rfl⟩
        obtain ⟨m3, hm3⟩ : ∃ m3, m3 = (upE c2 x1 a1 m2).2 := ⟨_, rfl⟩
        have hj1 : K + (j : Int) ≤ K + ((j + 1 : Nat) : Int) := by omega
        have hj2 : a1 ≤ K + ((j + 1 : Nat) : Int) := by omega
        have hok3 : OkE c3 m3 (K + ((j + 1 : Nat) : Int)) := by rw [hc3, hm3]; exact hok.up x1 hj1 (by omega) hj2
        rw [← hc3, ← hm3] at hrun
        have hup : upA c2 (.int .i64 x1) (.int .i64 a1) (G.l m2) = (c3, G.l m3) := by rw [G.ok, up_ent, ← hc3, ← hm3, G.ok]
        have hlk3 : lkA (.int .i64 x1) (G.l m3) = some (.int .i64 a1) := by rw [G.ok, hm3, lk_up]
        clear hc3 hm3
        have hadd : A.op .add .i64 ag 1 = a1 := by rw [add_i64 rfl rfl (by omega) (by omega), ha1]
        have hage : (lkA (.int .i64 x1) (G.l m2)).getD (.int .i64 0) = .int .i64 ag := by rw [hag, G.ok]; exact age_ent x1 m2
        obtain ⟨o1, ho1⟩ : ∃ o, lkA (.int .i64 x1) (G.l m2) = o := ⟨_, rfl⟩
        rw [ho1] at hage
        have hkeys : Keys (.int .i64) (.int .i64 x1) (G.l m2) := ⟨rfl, fun x hx => by
          rw [G.ok] at hx
          obtain ⟨y, _, rfl⟩ := List.mem_map.1 hx
          rfl⟩
        have hkeys3 : Keys (.int .i64) (.int .i64 x1) (G.l m3) := ⟨rfl, fun x hx => by
          rw [G.ok] at hx
          obtain ⟨y, _, rfl⟩ := List.mem_map.1 hx
          rfl⟩
        ((try cbv) <;> (repeat ((with_reducible refine EW.of ?_); cbv)))
        (refine TW.drawT (A := A) (T0_ok hP) (hP ▸ follows_mixed) (by cbv) rfl (by cbv) rfl rfl rfl ?_; cbv)
        refine And.intro hkeys ⟨o1, ho1, ?_⟩
        cases o1 with
        | none =>
          obtain rfl : ag = 0 := by
            have h9 : AV.int .i64 0 = .int .i64 ag := hage
            exact (AV.int.inj h9).2.symm
          replace hup : upA c2 (.int .i64 x1) (.int .i64 (A.op .add .i64 0 1)) (G.l m2) = (c3, G.l m3) := by rw [hadd]; exact hup
          cbv
          refine And.intro hkeys ⟨c3, G.l m3, hup, ?_⟩
          ((try cbv) <;> (repeat ((with_reducible refine EW.of ?_); cbv)))
          (refine TW.draw (A := A) (T0_ok hP) (hP ▸ follows_mixed) (by kernel_rfl) rfl ?_; cbv)
          refine And.intro hkeys3 ⟨_, hlk3, ?_⟩
          ((try cbv) <;> (repeat ((with_reducible refine EW.of ?_); cbv)))
          by_cases h9 : term ≤ a1
          · rw [if_pos h9] at hrun
            refine byes (leT h9) ?_
            obtain ⟨done1, hd1⟩ : ∃ d, d = done ++ [x1] := ⟨_, rfl⟩
            rw [← hd1] at hrun
            obtain ⟨q1, hq1⟩ : ∃ q, q = done1.length := ⟨_, rfl⟩
            have hd1l : done1.length ≤ j + 1 := by rw [hd1]; simp <;> omega
            ((try cbv) <;> (repeat ((with_reducible refine EW.of ?_); cbv)))
            have hq2 : q1 = q + 1 := by rw [hq1, hd1, hoi]; simp
            have hdl := E.int.len done
            refine ⟨⟨rfl⟩, q1, E.int.l done1, hq2, by rw [hd1]; simp only [E.int.app, E.int.cons, E.iv, E.int.nil]; rw [List.take_of_length_le (show (E.int.l done).length ≤ q by omega)], (show q ≤ (E.int.l done).length by omega), by omega, by omega, ?_⟩
            cbv
            ((try cbv) <;> (repeat ((with_reducible refine EW.of ?_); cbv)))
            refine LM.of (j + 1, c3, m3, some (q1, done1)) rfl ?_ ?_ ?_
            · rw [hS]; exact ⟨by show j + 1 ≤ _; omega, hok3, hq1, hd1l, hrun⟩
            · rw [hS]; show l.length - (j + 1) < l.length - j; omega
            · rw [hS]; cbv; (repeat (first | exact trivial | refine And.intro (G.pur _) ?_ | refine And.intro (Emb.Pur _ _) ?_ | refine And.intro (inc_eq A (by omega)) ?_ | refine And.intro rfl ?_))
          · rw [if_neg h9] at hrun
            refine bno (leF (by omega)) ?_
            ((try cbv) <;> (repeat ((with_reducible refine EW.of ?_); cbv)))
            refine LM.of (j + 1, c3, m3, oo) rfl ?_ ?_ ?_
            · rw [hS]; exact ⟨by show j + 1 ≤ _; omega, hok3, hol2, Nat.le_trans (Nat.le_of_eq (congrArg List.length hoo)) (Nat.le_succ_of_le hol), by rw [hoo]; exact hrun⟩
            · rw [hS]; show l.length - (j + 1) < l.length - j; omega
            · rw [hS, hoe]; cbv; (repeat (first | exact trivial | refine And.intro (G.pur _) ?_ | refine And.intro (Emb.Pur _ _) ?_ | refine And.intro (inc_eq A (by omega)) ?_ | refine And.intro rfl ?_))
        | some v =>
          obtain rfl : v = .int .i64 ag := hage
          replace hup : upA c2 (.int .i64 x1) (.int .i64 (A.op .add .i64 ag 1)) (G.l m2) = (c3, G.l m3) := by rw [hadd]; exact hup
          cbv
          refine And.intro hkeys ⟨c3, G.l m3, hup, ?_⟩
          ((try cbv) <;> (repeat ((with_reducible refine EW.of ?_); cbv)))
          (refine TW.draw (A := A) (T0_ok hP) (hP ▸ follows_mixed) (by kernel_rfl) rfl ?_; cbv)
          refine And.intro hkeys3 ⟨_, hlk3, ?_⟩
          ((try cbv) <;> (repeat ((with_reducible refine EW.of ?_); cbv)))
          by_cases h9 : term ≤ a1
          · rw [if_pos h9] at hrun
            refine byes (leT h9) ?_
            obtain ⟨done1, hd1⟩ : ∃ d, d = done ++ [x1] := ⟨_, rfl⟩
            rw [← hd1] at hrun
            obtain ⟨q1, hq1⟩ : ∃ q, q = done1.length := ⟨_, rfl⟩
            have hd1l : done1.length ≤ j + 1 := by rw [hd1]; simp <;> omega
            ((try cbv) <;> (repeat ((with_reducible refine EW.of ?_); cbv)))
            have hq2 : q1 = q + 1 := by rw [hq1, hd1, hoi]; simp
            have hdl := E.int.len done
            refine ⟨⟨rfl⟩, q1, E.int.l done1, hq2, by rw [hd1]; simp only [E.int.app, E.int.cons, E.iv, E.int.nil]; rw [List.take_of_length_le (show (E.int.l done).length ≤ q by omega)], (show q ≤ (E.int.l done).length by omega), by omega, by omega, ?_⟩
            cbv
            ((try cbv) <;> (repeat ((with_reducible refine EW.of ?_); cbv)))
            refine LM.of (j + 1, c3, m3, some (q1, done1)) rfl ?_ ?_ ?_
            · rw [hS]; exact ⟨by show j + 1 ≤ _; omega, hok3, hq1, hd1l, hrun⟩
            · rw [hS]; show l.length - (j + 1) < l.length - j; omega
            · rw [hS]; cbv; (repeat (first | exact trivial | refine And.intro (G.pur _) ?_ | refine And.intro (Emb.Pur _ _) ?_ | refine And.intro (inc_eq A (by omega)) ?_ | refine And.intro rfl ?_))
          · rw [if_neg h9] at hrun
            refine bno (leF (by omega)) ?_
            ((try cbv) <;> (repeat ((with_reducible refine EW.of ?_); cbv)))
            refine LM.of (j + 1, c3, m3, oo) rfl ?_ ?_ ?_
            · rw [hS]; exact ⟨by show j + 1 ≤ _; omega, hok3, hol2, Nat.le_trans (Nat.le_of_eq (congrArg List.length hoo)) (Nat.le_succ_of_le hol), by rw [hoo]; exact hrun⟩
            · rw [hS]; show l.length - (j + 1) < l.length - j; omega
            · rw [hS, hoe]; cbv; (repeat (first | exact trivial | refine And.intro (G.pur _) ?_ | refine And.intro (Emb.Pur _ _) ?_ | refine And.intro (inc_eq A (by omega)) ?_ | refine And.intro rfl ?_))
    · have h : (F.l.l l).length ≤ j := lt_nf h rfl (A.ok_len _)
      have hll := F.l.len l
      rw [List.drop_eq_nil_of_le (show l.length ≤ j by omega)] at hrun
      unfold runE at hrun
      cases hrun
      ((try cbv) <;> (repeat ((with_reducible refine EW.of ?_); cbv)))
      refine R1.of ?_
      cbv
      exact And.intro (G.pur _) (And.intro (E.int.cut hoi) (And.intro (E.int.Pur _) trivial))
end Go.Proofs.Ytpjibokaeefhiaa
