import Derived.Test.YtpjibokaeefhiaaOf
/-! The references of leases: Remove. -/
namespace Go.Proofs.Ytpjibokaeefhiaa
open Go.Proofs.Ytpjibokaeefhiaa.Tw
theorem take_has {l : List Int} {k : Nat} {x y : Int} (hy : l[k]? = some y) : (l.take (k + 1)).contains x = ((l.take k).contains x || decide (y = x)) := by
  rw [List.take_add_one, hy]
  simp only [Option.toList_some, List.contains_eq_mem, List.mem_append, List.mem_singleton, Bool.decide_or, eq_comm]
set_option maxHeartbeats 1000000 in
theorem Remove55 (A : Ar) (E : Em) (F : EmL) {P : Program} (hP : P = Try.prog) (l : List Lease) (hl : l.length ≤ 1000000) (ids : List Int) (hi : ids.length ≤ 1000000) : TPure P 55 [.sl 5 (F.l.l l), .sl 1 (E.int.l ids)] (.sl 5 (F.l.l (l.filter fun x => !ids.contains x.id))) := by
  refine TPure.ofE A T0 (T0_ok hP) (hP ▸ Try.func55) rfl _ rfl (by simp) ?_
  have hll := F.l.len l
  have hli := E.int.len ids
  obtain ⟨so, hso⟩ : ∃ so : Lease → Bool, so = fun x => !ids.contains x.id := ⟨_, rfl⟩
  rw [← hso]
  obtain ⟨r, hr⟩ : ∃ r, r = l.filter so := ⟨_, rfl⟩
  rw [← hr]
  cbv
  ((try cbv) <;> (repeat ((with_reducible refine EW.of ?_); cbv)))
  obtain ⟨S, hS⟩ : ∃ S : LI (Nat × Option (Nat × List Lease)), S = ⟨fun x => [(6, .int .i64 x.1), (5, rowL 0 x.2), (0, .sl 5 (F.l.l l)), (1, .sl 1 (E.int.l ids))], fun x => stL F [] x.2, fun x => x.1 ≤ l.length ∧ invL ((l.take x.1).filter so) x.2, fun x => l.length - x.1⟩ := ⟨_, rfl⟩
  refine TW.loopM A (T0_ok hP) S _ rfl (0, none) ?_ ?_ ?_
  · rw [hS]; exact ⟨Nat.zero_le _, rfl⟩
  · rw [hS]; cbv; (repeat (first | exact trivial | refine And.intro (Emb.Pur _ _) ?_ | refine And.intro rfl ?_ | refine And.intro (Pur.mk rfl) ?_ | refine And.intro (Pur.mk (by assumption)) ?_))
  rintro ⟨j, o⟩ hj l1 L1 e1 e2
  rw [hS] at hj e1 e2
  obtain ⟨hj, ho⟩ := hj
  dsimp only at hj ho e1 e2
  subst e1
  obtain ⟨oo, hoe⟩ : ∃ oo, oo = o := ⟨_, rfl⟩
  have hoo : invL ((l.take j).filter so) oo := hoe ▸ ho
  cases o with
  | none =>
    dsimp only [stL, rowL, invL] at e2 ho ⊢
    obtain ⟨rwZ, hrw⟩ : ∃ v : AV, v = .nils := ⟨_, rfl⟩
    obtain ⟨stZ, hst⟩ : ∃ v : Store, v = [] := ⟨_, rfl⟩
    subst e2
    cbv
    ((try cbv) <;> (repeat ((with_reducible refine EW.of ?_); cbv)))
    refine bsplit (fun h => ?_) (fun h => ?_)
    · have h : j < (F.l.l l).length := lt_nt h rfl (A.ok_len _)
      obtain ⟨x, hx⟩ : ∃ x, l[j]? = some x := ⟨_, List.getElem?_eq_getElem (by omega)⟩
      have htk := filter_take (so := so) hx
      have hlk := filter_le (so := so) (l := l) (j := j)
      obtain ⟨x1, x2, x3, x4, x5⟩ := x
      have hs : so ⟨x1, x2, x3, x4, x5⟩ = !ids.contains x1 := by rw [hso]
      rw [hs] at htk
      ((try cbv) <;> (repeat ((with_reducible refine EW.of ?_); cbv)))
      obtain ⟨z, hz⟩ : ∃ z : Store, z = stZ := ⟨_, rfl⟩
      obtain ⟨S2, hS2⟩ : ∃ S2 : LI (Nat × Bool), S2 = ⟨fun x => [(8, .int .i64 x.1), (7, .bool x.2), (6, .int .i64 j), (5, rwZ), (0, .sl 5 (F.l.l l)), (1, .sl 1 (E.int.l ids))], fun _ => z, fun x => x.1 ≤ ids.length ∧ x.2 = (ids.take x.1).contains x1, fun x => ids.length - x.1⟩ := ⟨_, rfl⟩
      refine TW.loopM A (T0_ok hP) S2 _ rfl (0, false) ?_ ?_ ?_
      · rw [hS2]; exact ⟨Nat.zero_le _, rfl⟩
      · rw [hS2, hz, hst, hrw]; cbv; (repeat (first | exact trivial | refine And.intro (Emb.Pur _ _) ?_ | refine And.intro rfl ?_ | refine And.intro (Pur.mk rfl) ?_ | refine And.intro (Pur.mk (by assumption)) ?_))
      rintro ⟨k, g⟩ hk l2 L2 e3 e4
      rw [hS2] at hk e3 e4
      obtain ⟨hk, hg⟩ := hk
      dsimp only at hk hg e3 e4
      subst e3 e4
      rw [hz, hst, hrw]
      cbv
      ((try cbv) <;> (repeat ((with_reducible refine EW.of ?_); cbv)))
      refine bsplit (fun h2 => ?_) (fun h2 => ?_)
      · have h2 : k < (E.int.l ids).length := lt_nt h2 rfl (A.ok_len _)
        obtain ⟨y, hy⟩ : ∃ y, ids[k]? = some y := ⟨_, List.getElem?_eq_getElem (by omega)⟩
        have hgk : (ids.take (k + 1)).contains x1 = (g || decide (y = x1)) := by rw [hg]; exact take_has hy
        cases g with
        | true =>
          replace hgk : true = (ids.take (k + 1)).contains x1 := hgk.symm
          ((try cbv) <;> (repeat ((with_reducible refine EW.of ?_); cbv)))
          (refine TW.draw (A := A) (T0_ok hP) (hP ▸ follows_mixed) (by kernel_rfl) rfl ?_; cbv)
          ((try cbv) <;> (repeat ((with_reducible refine EW.of ?_); cbv)))
          refine LM.of (k + 1, true) rfl ?_ ?_ ?_
          · rw [hS2]; exact ⟨by show k + 1 ≤ _; omega, hgk⟩
          · rw [hS2]; show ids.length - (k + 1) < ids.length - k; omega
          · rw [hS2, hz, hst, hrw]; (cbv; (repeat (first | exact trivial | refine And.intro (Emb.Pur _ _) ?_ | refine And.intro rfl ?_ | refine And.intro (Pur.mk rfl) ?_ | refine And.intro (Pur.mk (by assumption)) ?_)); refine And.intro (inc_eq A (by omega)) ?_; (repeat (first | exact trivial | refine And.intro (Emb.Pur _ _) ?_ | refine And.intro rfl ?_ | refine And.intro (Pur.mk rfl) ?_ | refine And.intro (Pur.mk (by assumption)) ?_)))
        | false =>
          replace hgk : A.eq y x1 = (ids.take (k + 1)).contains x1 := by rw [hgk]; simpa using A.ok_eq y x1
          ((try cbv) <;> (repeat ((with_reducible refine EW.of ?_); cbv)))
          (refine TW.draw (A := A) (T0_ok hP) (hP ▸ follows_mixed) (by kernel_rfl) rfl ?_; cbv)
          refine ⟨k, _, rfl, E.geti hy, ?_⟩
          cbv
          refine ⟨j, _, rfl, F.get hx, ?_⟩
          cbv
          ((try cbv) <;> (repeat ((with_reducible refine EW.of ?_); cbv)))
          refine LM.of (k + 1, A.eq y x1) rfl ?_ ?_ ?_
          · rw [hS2]; exact ⟨by show k + 1 ≤ _; omega, hgk⟩
          · rw [hS2]; show ids.length - (k + 1) < ids.length - k; omega
          · rw [hS2, hz, hst, hrw]; (cbv; (repeat (first | exact trivial | refine And.intro (Emb.Pur _ _) ?_ | refine And.intro rfl ?_ | refine And.intro (Pur.mk rfl) ?_ | refine And.intro (Pur.mk (by assumption)) ?_)); refine And.intro (inc_eq A (by omega)) ?_; (repeat (first | exact trivial | refine And.intro (Emb.Pur _ _) ?_ | refine And.intro rfl ?_ | refine And.intro (Pur.mk rfl) ?_ | refine And.intro (Pur.mk (by assumption)) ?_)))
      · have h2 : (E.int.l ids).length ≤ k := lt_nf h2 rfl (A.ok_len _)
        rw [List.take_of_length_le (by omega)] at hg
        rw [← hg] at htk
        cases g with
        | false =>
          replace htk : (l.take (j + 1)).filter so = (l.take j).filter so ++ [⟨x1, x2, x3, x4, x5⟩] := htk
          obtain ⟨done1, hd1⟩ : ∃ d, d = (l.take (j + 1)).filter so := ⟨_, rfl⟩
          obtain ⟨q, hq⟩ : ∃ q, q = done1.length := ⟨_, rfl⟩
          ((try cbv) <;> (repeat ((with_reducible refine EW.of ?_); cbv)))
          refine ⟨j, _, rfl, F.get hx, ?_⟩
          cbv
          ((try cbv) <;> (repeat ((with_reducible refine EW.of ?_); cbv)))
          rw [ho] at htk
          refine ⟨⟨rfl⟩, q, F.l.l done1, by rw [hq, hd1, htk]; rfl, by rw [hd1, htk]; simp only [List.nil_append, F.l.cons, F.row, F.l.nil]; rfl, Nat.zero_le _, ?_, ?_, ?_⟩
          · rw [hq, hd1, htk]; simp
          · rw [hq, hd1, htk]; simp
          cbv
          ((try cbv) <;> (repeat ((with_reducible refine EW.of ?_); cbv)))
          refine LM.of (j + 1, some (q, done1)) rfl ?_ ?_ ?_
          · rw [hS]; exact ⟨by show j + 1 ≤ _; omega, hq, hd1⟩
          · rw [hS]; show l.length - (j + 1) < l.length - j; omega
          · rw [hS]; (cbv; (repeat (first | exact trivial | refine And.intro (Emb.Pur _ _) ?_ | refine And.intro rfl ?_ | refine And.intro (Pur.mk rfl) ?_ | refine And.intro (Pur.mk (by assumption)) ?_)); refine And.intro (inc_eq A (by omega)) ?_; (repeat (first | exact trivial | refine And.intro (Emb.Pur _ _) ?_ | refine And.intro rfl ?_ | refine And.intro (Pur.mk rfl) ?_ | refine And.intro (Pur.mk (by assumption)) ?_)))
        | true =>
          replace htk : (l.take (j + 1)).filter so = (l.take j).filter so := by simpa using htk
          ((try cbv) <;> (repeat ((with_reducible refine EW.of ?_); cbv)))
          refine LM.of (j + 1, oo) rfl ?_ ?_ ?_
          · rw [hS]; exact ⟨by show j + 1 ≤ _; omega, by rw [htk]; exact hoo⟩
          · rw [hS]; show l.length - (j + 1) < l.length - j; omega
          · rw [hS, hoe]; (cbv; (repeat (first | exact trivial | refine And.intro (Emb.Pur _ _) ?_ | refine And.intro rfl ?_ | refine And.intro (Pur.mk rfl) ?_ | refine And.intro (Pur.mk (by assumption)) ?_)); refine And.intro (inc_eq A (by omega)) ?_; (repeat (first | exact trivial | refine And.intro (Emb.Pur _ _) ?_ | refine And.intro rfl ?_ | refine And.intro (Pur.mk rfl) ?_ | refine And.intro (Pur.mk (by assumption)) ?_)))
    · have h : (F.l.l l).length ≤ j := lt_nf h rfl (A.ok_len _)
      rw [List.take_of_length_le (by omega), ← hr] at ho
      ((try cbv) <;> (repeat ((with_reducible refine EW.of ?_); cbv)))
      subst ho
      exact ⟨F.l.nil.symm, trivial⟩
  | some x =>
    obtain ⟨m, done⟩ := x
    dsimp only [stL, rowL, invL] at e2 ho ⊢
    obtain ⟨hm, ho⟩ := ho
    obtain ⟨rwZ, hrw⟩ : ∃ v : AV, v = .row 0 5 0 m := ⟨_, rfl⟩
    obtain ⟨stZ, hst⟩ : ∃ v : Store, v = [some (.arr 5 (F.l.l done))] := ⟨_, rfl⟩
    subst e2
    cbv
    ((try cbv) <;> (repeat ((with_reducible refine EW.of ?_); cbv)))
    refine bsplit (fun h => ?_) (fun h => ?_)
    · have h : j < (F.l.l l).length := lt_nt h rfl (A.ok_len _)
      obtain ⟨x, hx⟩ : ∃ x, l[j]? = some x := ⟨_, List.getElem?_eq_getElem (by omega)⟩
      have htk := filter_take (so := so) hx
      have hlk := filter_le (so := so) (l := l) (j := j)
      obtain ⟨x1, x2, x3, x4, x5⟩ := x
      have hs : so ⟨x1, x2, x3, x4, x5⟩ = !ids.contains x1 := by rw [hso]
      rw [hs] at htk
      ((try cbv) <;> (repeat ((with_reducible refine EW.of ?_); cbv)))
      obtain ⟨z, hz⟩ : ∃ z : Store, z = stZ := ⟨_, rfl⟩
      obtain ⟨S2, hS2⟩ : ∃ S2 : LI (Nat × Bool), S2 = ⟨fun x => [(8, .int .i64 x.1), (7, .bool x.2), (6, .int .i64 j), (5, rwZ), (0, .sl 5 (F.l.l l)), (1, .sl 1 (E.int.l ids))], fun _ => z, fun x => x.1 ≤ ids.length ∧ x.2 = (ids.take x.1).contains x1, fun x => ids.length - x.1⟩ := ⟨_, rfl⟩
      refine TW.loopM A (T0_ok hP) S2 _ rfl (0, false) ?_ ?_ ?_
      · rw [hS2]; exact ⟨Nat.zero_le _, rfl⟩
      · rw [hS2, hz, hst, hrw]; cbv; (repeat (first | exact trivial | refine And.intro (Emb.Pur _ _) ?_ | refine And.intro rfl ?_ | refine And.intro (Pur.mk rfl) ?_ | refine And.intro (Pur.mk (by assumption)) ?_))
      rintro ⟨k, g⟩ hk l2 L2 e3 e4
      rw [hS2] at hk e3 e4
      obtain ⟨hk, hg⟩ := hk
      dsimp only at hk hg e3 e4
      subst e3 e4
      rw [hz, hst, hrw]
      cbv
      ((try cbv) <;> (repeat ((with_reducible refine EW.of ?_); cbv)))
      refine bsplit (fun h2 => ?_) (fun h2 => ?_)
      · have h2 : k < (E.int.l ids).length := lt_nt h2 rfl (A.ok_len _)
        obtain ⟨y, hy⟩ : ∃ y, ids[k]? = some y := ⟨_, List.getElem?_eq_getElem (by omega)⟩
        have hgk : (ids.take (k + 1)).contains x1 = (g || decide (y = x1)) := by rw [hg]; exact take_has hy
        cases g with
        | true =>
          replace hgk : true = (ids.take (k + 1)).contains x1 := hgk.symm
          ((try cbv) <;> (repeat ((with_reducible refine EW.of ?_); cbv)))
          (refine TW.draw (A := A) (T0_ok hP) (hP ▸ follows_mixed) (by kernel_rfl) rfl ?_; cbv)
          ((try cbv) <;> (repeat ((with_reducible refine EW.of ?_); cbv)))
          refine LM.of (k + 1, true) rfl ?_ ?_ ?_
          · rw [hS2]; exact ⟨by show k + 1 ≤ _; omega, hgk⟩
          · rw [hS2]; show ids.length - (k + 1) < ids.length - k; omega
          · rw [hS2, hz, hst, hrw]; (cbv; (repeat (first | exact trivial | refine And.intro (Emb.Pur _ _) ?_ | refine And.intro rfl ?_ | refine And.intro (Pur.mk rfl) ?_ | refine And.intro (Pur.mk (by assumption)) ?_)); refine And.intro (inc_eq A (by omega)) ?_; (repeat (first | exact trivial | refine And.intro (Emb.Pur _ _) ?_ | refine And.intro rfl ?_ | refine And.intro (Pur.mk rfl) ?_ | refine And.intro (Pur.mk (by assumption)) ?_)))
        | false =>
          replace hgk : A.eq y x1 = (ids.take (k + 1)).contains x1 := by rw [hgk]; simpa using A.ok_eq y x1
          ((try cbv) <;> (repeat ((with_reducible refine EW.of ?_); cbv)))
          (refine TW.draw (A := A) (T0_ok hP) (hP ▸ follows_mixed) (by kernel_rfl) rfl ?_; cbv)
          refine ⟨k, _, rfl, E.geti hy, ?_⟩
          cbv
          refine ⟨j, _, rfl, F.get hx, ?_⟩
          cbv
          ((try cbv) <;> (repeat ((with_reducible refine EW.of ?_); cbv)))
          refine LM.of (k + 1, A.eq y x1) rfl ?_ ?_ ?_
          · rw [hS2]; exact ⟨by show k + 1 ≤ _; omega, hgk⟩
          · rw [hS2]; show ids.length - (k + 1) < ids.length - k; omega
          · rw [hS2, hz, hst, hrw]; (cbv; (repeat (first | exact trivial | refine And.intro (Emb.Pur _ _) ?_ | refine And.intro rfl ?_ | refine And.intro (Pur.mk rfl) ?_ | refine And.intro (Pur.mk (by assumption)) ?_)); refine And.intro (inc_eq A (by omega)) ?_; (repeat (first | exact trivial | refine And.intro (Emb.Pur _ _) ?_ | refine And.intro rfl ?_ | refine And.intro (Pur.mk rfl) ?_ | refine And.intro (Pur.mk (by assumption)) ?_)))
      · have h2 : (E.int.l ids).length ≤ k := lt_nf h2 rfl (A.ok_len _)
        rw [List.take_of_length_le (by omega)] at hg
        rw [← hg] at htk
        cases g with
        | false =>
          replace htk : (l.take (j + 1)).filter so = (l.take j).filter so ++ [⟨x1, x2, x3, x4, x5⟩] := htk
          obtain ⟨done1, hd1⟩ : ∃ d, d = (l.take (j + 1)).filter so := ⟨_, rfl⟩
          obtain ⟨q, hq⟩ : ∃ q, q = done1.length := ⟨_, rfl⟩
          ((try cbv) <;> (repeat ((with_reducible refine EW.of ?_); cbv)))
          refine ⟨j, _, rfl, F.get hx, ?_⟩
          cbv
          ((try cbv) <;> (repeat ((with_reducible refine EW.of ?_); cbv)))
          have hdl := F.l.len done
          rw [← ho] at htk hlk
          have hq1 : q = m + 1 := by rw [hq, hd1, htk, hm]; simp
          refine ⟨⟨rfl⟩, q, F.l.l done1, hq1, by rw [hd1, htk]; simp only [F.l.app, F.l.cons, F.row, F.l.nil]; rw [List.take_of_length_le (show (F.l.l done).length ≤ m by omega)], (show m ≤ (F.l.l done).length by omega), by omega, by omega, ?_⟩
          cbv
          ((try cbv) <;> (repeat ((with_reducible refine EW.of ?_); cbv)))
          refine LM.of (j + 1, some (q, done1)) rfl ?_ ?_ ?_
          · rw [hS]; exact ⟨by show j + 1 ≤ _; omega, hq, hd1⟩
          · rw [hS]; show l.length - (j + 1) < l.length - j; omega
          · rw [hS]; (cbv; (repeat (first | exact trivial | refine And.intro (Emb.Pur _ _) ?_ | refine And.intro rfl ?_ | refine And.intro (Pur.mk rfl) ?_ | refine And.intro (Pur.mk (by assumption)) ?_)); refine And.intro (inc_eq A (by omega)) ?_; (repeat (first | exact trivial | refine And.intro (Emb.Pur _ _) ?_ | refine And.intro rfl ?_ | refine And.intro (Pur.mk rfl) ?_ | refine And.intro (Pur.mk (by assumption)) ?_)))
        | true =>
          replace htk : (l.take (j + 1)).filter so = (l.take j).filter so := by simpa using htk
          ((try cbv) <;> (repeat ((with_reducible refine EW.of ?_); cbv)))
          refine LM.of (j + 1, oo) rfl ?_ ?_ ?_
          · rw [hS]; exact ⟨by show j + 1 ≤ _; omega, by rw [htk]; exact hoo⟩
          · rw [hS]; show l.length - (j + 1) < l.length - j; omega
          · rw [hS, hoe]; (cbv; (repeat (first | exact trivial | refine And.intro (Emb.Pur _ _) ?_ | refine And.intro rfl ?_ | refine And.intro (Pur.mk rfl) ?_ | refine And.intro (Pur.mk (by assumption)) ?_)); refine And.intro (inc_eq A (by omega)) ?_; (repeat (first | exact trivial | refine And.intro (Emb.Pur _ _) ?_ | refine And.intro rfl ?_ | refine And.intro (Pur.mk rfl) ?_ | refine And.intro (Pur.mk (by assumption)) ?_)))
    · have h : (F.l.l l).length ≤ j := lt_nf h rfl (A.ok_len _)
      rw [List.take_of_length_le (by omega), ← hr] at ho
      ((try cbv) <;> (repeat ((with_reducible refine EW.of ?_); cbv)))
      subst ho
      exact ⟨F.l.cut hm, F.l.Pur _, trivial⟩
end Go.Proofs.Ytpjibokaeefhiaa
