import Derived.Test.YtpjibokaeefhiaaOd
import Derived.Test.YtpjibokaeefhiaaLh
/-! The references of leases: Find, Way. -/
namespace Go.Proofs.Ytpjibokaeefhiaa
open Go.Proofs.Ytpjibokaeefhiaa.Tw
theorem find_drop {so : Lease → Bool} : ∀ {l : List Lease} {j : Nat} {x : Lease}, l[j]? = some x → (l.drop j).find? so = if so x then some x else (l.drop (j + 1)).find? so
  | [], j, x, h => by simp at h
  | y :: l, 0, x, h => by simp at h; subst h; simp only [List.drop_zero, List.find?_cons, List.drop_succ_cons]; cases so y <;> simp
  | y :: l, j + 1, x, h => by simp only [List.drop_succ_cons]; exact find_drop (by simpa using h)
theorem EmL.found_some (F : EmL) (a b c d e : Int) : F.found (some ⟨a, b, c, d, e⟩) = .tup [.agg [.int .i64 a, .int .i64 b, .int .i64 c, .int .i64 d, .int .i64 e], .bool true] := by simp only [EmL.found, Option.getD_some, Option.isSome_some, F.row]
theorem EmL.found_none (F : EmL) : F.found none = .tup [.agg [.int .i64 0, .int .i64 0, .int .i64 0, .int .i64 0, .int .i64 0], .bool false] := by simp only [EmL.found, Option.getD_none, Option.isSome_none, lease0, F.row]
theorem Find50 (A : Ar) (F : EmL) {P : Program} (hP : P = Try.prog) (l : List Lease) (hl : l.length ≤ 1000000) (id : Int) : TPure P 50 [.sl 5 (F.l.l l), .int .i64 id] (F.found (l.find? fun x => decide (x.id = id))) := by
  refine TPure.ofE A T0 (T0_ok hP) (hP ▸ Try.func50) rfl _ rfl (by simp) ?_
  have hll := F.l.len l
  obtain ⟨so, hso⟩ : ∃ so : Lease → Bool, so = fun x => decide (x.id = id) := ⟨_, rfl⟩
  rw [← hso]
  obtain ⟨r, hr⟩ : ∃ r, F.found (l.find? so) = r := ⟨_, rfl⟩
  rw [hr]
  cbv
  ((try cbv) <;> (repeat ((with_reducible refine EW.of ?_); cbv)))
  obtain ⟨z, hz⟩ : ∃ z : Store, z = [some (.box 5 (.agg [.int .i64 0, .int .i64 0, .int .i64 0, .int .i64 0, .int .i64 0]))] := ⟨_, rfl⟩
  obtain ⟨S, hS⟩ : ∃ S : LI Nat, S = ⟨fun j => [(6, .int .i64 j), (5, .bool false), (4, .ref 0 5 0 0), (0, .sl 5 (F.l.l l)), (1, .int .i64 id)], fun _ => z, fun j => j ≤ l.length ∧ F.found ((l.drop j).find? so) = r, fun j => l.length - j⟩ := ⟨_, rfl⟩
  refine TW.loopM A (T0_ok hP) S _ rfl 0 ?_ ?_ ?_
  · rw [hS]; exact ⟨Nat.zero_le _, hr⟩
  · rw [hS, hz]; cbv; (repeat (first | exact trivial | refine And.intro (Emb.Pur _ _) ?_ | refine And.intro rfl ?_ | refine And.intro (Pur.mk rfl) ?_ | refine And.intro (Pur.mk (by assumption)) ?_))
  intro j hj l1 L1 e1 e2; rw [hS] at hj e1 e2; dsimp only at hj e1 e2; obtain ⟨hj, hinv⟩ := hj; subst e1 e2
  rw [hz]
  cbv
  ((try cbv) <;> (repeat ((with_reducible refine EW.of ?_); cbv)))
  refine bsplit (fun h => ?_) (fun h => ?_)
  · have h : j < (F.l.l l).length := lt_nt h rfl (A.ok_len _)
    obtain ⟨x, hx⟩ : ∃ x, l[j]? = some x := ⟨_, List.getElem?_eq_getElem (by omega)⟩
    rw [find_drop hx] at hinv
    obtain ⟨x1, x2, x3, x4, x5⟩ := x
    have hs : so ⟨x1, x2, x3, x4, x5⟩ = decide (x1 = id) := by rw [hso]
    ((try cbv) <;> (repeat ((with_reducible refine EW.of ?_); cbv)))
    refine ⟨j, _, rfl, F.get hx, ?_⟩
    cbv
    ((try cbv) <;> (repeat ((with_reducible refine EW.of ?_); cbv)))
    refine bsplit (fun h => ?_) (fun h => ?_)
    · have h : x1 = id := eq_t h rfl rfl
      rw [hs, if_pos (by simpa using h), F.found_some] at hinv
      subst hinv
      ((try cbv) <;> (repeat ((with_reducible refine EW.of ?_); cbv)))
      refine ⟨j, _, rfl, F.get hx, ?_⟩
      cbv
      ((try cbv) <;> (repeat ((with_reducible refine EW.of ?_); cbv)))
    · have h : x1 ≠ id := eq_f h rfl rfl
      rw [hs, if_neg (by simpa using h)] at hinv
      ((try cbv) <;> (repeat ((with_reducible refine EW.of ?_); cbv)))
      refine LM.of (j + 1) rfl ?_ ?_ ?_
      · rw [hS]; exact ⟨by show j + 1 ≤ _; omega, hinv⟩
      · rw [hS]; show l.length - (j + 1) < l.length - j; omega
      · rw [hS, hz]; (cbv; (repeat (first | exact trivial | refine And.intro (Emb.Pur _ _) ?_ | refine And.intro rfl ?_ | refine And.intro (Pur.mk rfl) ?_ | refine And.intro (Pur.mk (by assumption)) ?_)); refine And.intro (inc_eq A (by omega)) ?_; (repeat (first | exact trivial | refine And.intro (Emb.Pur _ _) ?_ | refine And.intro rfl ?_ | refine And.intro (Pur.mk rfl) ?_ | refine And.intro (Pur.mk (by assumption)) ?_)))
  · have h : (F.l.l l).length ≤ j := lt_nf h rfl (A.ok_len _)
    rw [List.drop_eq_nil_of_le (by omega), List.find?_nil, F.found_none] at hinv
    subst hinv
    ((try cbv) <;> (repeat ((with_reducible refine EW.of ?_); cbv)))
theorem Way52 (A : Ar) (E : Em) (F : EmL) {P : Program} (hP : P = Try.prog) (n : Nat) (hn : n ≤ 1000000) (t : Tree) (hw : within n t) (l : List Lease) (hl : l.length ≤ 1000000) (node : Int) : TPure P 52 [E.tree.v t, .sl 5 (F.l.l l), .int .i64 node] (F.found (l.find? fun x => withinS t x.root node || withinS t node x.root)) := by
  refine TPure.ofE A T0 (T0_ok hP) (hP ▸ Try.func52) rfl _ rfl (by simp) ?_
  have hll := F.l.len l
  obtain ⟨i, k, s, ks⟩ := t
  have hwi := fun a b => Within22 A hP a b n hn (.node i k s ks) hw
  obtain ⟨so, hso⟩ : ∃ so : Lease → Bool, so = fun x => withinS (.node i k s ks) x.root node || withinS (.node i k s ks) node x.root := ⟨_, rfl⟩
  rw [← hso]
  obtain ⟨r, hr⟩ : ∃ r, F.found (l.find? so) = r := ⟨_, rfl⟩
  rw [hr]
  simp only [E.av, E.node] at hwi ⊢
  cbv
  ((try cbv) <;> (repeat ((with_reducible refine EW.of ?_); cbv)))
  obtain ⟨z, hz⟩ : ∃ z : Store, z = [some (.box 4 (.agg [.int .i64 i, .int .i64 k, .str s, .sl 4 (E.tree.l ks)])), some (.box 5 (.agg [.int .i64 0, .int .i64 0, .int .i64 0, .int .i64 0, .int .i64 0]))] := ⟨_, rfl⟩
  obtain ⟨S, hS⟩ : ∃ S : LI Nat, S = ⟨fun j => [(8, .int .i64 j), (7, .bool false), (6, .ref 1 5 0 0), (3, .ref 0 4 0 0), (1, .sl 5 (F.l.l l)), (2, .int .i64 node)], fun _ => z, fun j => j ≤ l.length ∧ F.found ((l.drop j).find? so) = r, fun j => l.length - j⟩ := ⟨_, rfl⟩
  refine TW.loopM A (T0_ok hP) S _ rfl 0 ?_ ?_ ?_
  · rw [hS]; exact ⟨Nat.zero_le _, hr⟩
  · rw [hS, hz]; cbv; (repeat (first | exact trivial | refine And.intro (Emb.Pur _ _) ?_ | refine And.intro rfl ?_ | refine And.intro (Pur.mk rfl) ?_ | refine And.intro (Pur.mk (by assumption)) ?_))
  intro j hj l1 L1 e1 e2; rw [hS] at hj e1 e2; dsimp only at hj e1 e2; obtain ⟨hj, hinv⟩ := hj; subst e1 e2
  rw [hz]
  cbv
  ((try cbv) <;> (repeat ((with_reducible refine EW.of ?_); cbv)))
  refine bsplit (fun h => ?_) (fun h => ?_)
  · have h : j < (F.l.l l).length := lt_nt h rfl (A.ok_len _)
    obtain ⟨x, hx⟩ : ∃ x, l[j]? = some x := ⟨_, List.getElem?_eq_getElem (by omega)⟩
    rw [find_drop hx] at hinv
    obtain ⟨x1, x2, x3, x4, x5⟩ := x
    have hs : so ⟨x1, x2, x3, x4, x5⟩ = (withinS (.node i k s ks) x2 node || withinS (.node i k s ks) node x2) := by rw [hso]
    rw [hs] at hinv
    have ha := hwi x2 node
    have hb := hwi node x2
    generalize withinS (.node i k s ks) x2 node = wa at ha hinv
    generalize withinS (.node i k s ks) node x2 = wb at hb hinv
    ((try cbv) <;> (repeat ((with_reducible refine EW.of ?_); cbv)))
    (refine TW.draw (A := A) (T0_ok hP) (hP ▸ follows_mixed) (by kernel_rfl) rfl ?_; cbv)
    refine ⟨j, _, rfl, F.get hx, ?_⟩
    cbv
    (refine ⟨Ent.of (hP ▸ Try.func22) rfl, ?_⟩; refine ⟨_, TC.pureX ha (by cbv; (repeat (first | exact trivial | refine And.intro (Emb.Pur _ _) ?_ | refine And.intro rfl ?_ | refine And.intro (Pur.mk rfl) ?_ | refine And.intro (Pur.mk (by assumption)) ?_))), ?_⟩; cbv)
    cases wa with
    | true =>
      replace hinv : F.found (some ⟨x1, x2, x3, x4, x5⟩) = r := hinv
      rw [F.found_some] at hinv
      subst hinv
      ((try cbv) <;> (repeat ((with_reducible refine EW.of ?_); cbv)))
      refine ⟨j, _, rfl, F.get hx, ?_⟩
      cbv
      ((try cbv) <;> (repeat ((with_reducible refine EW.of ?_); cbv)))
    | false =>
      cbv
      refine ⟨j, _, rfl, F.get hx, ?_⟩
      cbv
      (refine ⟨Ent.of (hP ▸ Try.func22) rfl, ?_⟩; refine ⟨_, TC.pureX hb (by cbv; (repeat (first | exact trivial | refine And.intro (Emb.Pur _ _) ?_ | refine And.intro rfl ?_ | refine And.intro (Pur.mk rfl) ?_ | refine And.intro (Pur.mk (by assumption)) ?_))), ?_⟩; cbv)
      cases wb with
      | true =>
        replace hinv : F.found (some ⟨x1, x2, x3, x4, x5⟩) = r := hinv
        rw [F.found_some] at hinv
        subst hinv
        ((try cbv) <;> (repeat ((with_reducible refine EW.of ?_); cbv)))
        refine ⟨j, _, rfl, F.get hx, ?_⟩
        cbv
        ((try cbv) <;> (repeat ((with_reducible refine EW.of ?_); cbv)))
      | false =>
        replace hinv : F.found ((l.drop (j + 1)).find? so) = r := hinv
        ((try cbv) <;> (repeat ((with_reducible refine EW.of ?_); cbv)))
        refine LM.of (j + 1) rfl ?_ ?_ ?_
        · rw [hS]; exact ⟨by show j + 1 ≤ _; omega, hinv⟩
        · rw [hS]; show l.length - (j + 1) < l.length - j; omega
        · rw [hS, hz]; (cbv; (repeat (first | exact trivial | refine And.intro (Emb.Pur _ _) ?_ | refine And.intro rfl ?_ | refine And.intro (Pur.mk rfl) ?_ | refine And.intro (Pur.mk (by assumption)) ?_)); refine And.intro (inc_eq A (by omega)) ?_; (repeat (first | exact trivial | refine And.intro (Emb.Pur _ _) ?_ | refine And.intro rfl ?_ | refine And.intro (Pur.mk rfl) ?_ | refine And.intro (Pur.mk (by assumption)) ?_)))
  · have h : (F.l.l l).length ≤ j := lt_nf h rfl (A.ok_len _)
    rw [List.drop_eq_nil_of_le (by omega), List.find?_nil, F.found_none] at hinv
    subst hinv
    ((try cbv) <;> (repeat ((with_reducible refine EW.of ?_); cbv)))
end Go.Proofs.Ytpjibokaeefhiaa
