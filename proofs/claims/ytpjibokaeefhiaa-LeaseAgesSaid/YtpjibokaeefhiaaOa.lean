import Derived.Test.YtpjibokaeefhiaaLp
/-! Leases: closures, finds, keeps. -/
namespace Go.Proofs.Ytpjibokaeefhiaa
open Go.Proofs.Ytpjibokaeefhiaa.Tw
structure Lease where
  id : Int
  root : Int
  client : Int
  epoch : Int
  request : Int
  deriving DecidableEq, Inhabited
def Lease.av (x : Lease) : AV := .agg [.int .i64 x.id, .int .i64 x.root, .int .i64 x.client, .int .i64 x.epoch, .int .i64 x.request]
def leaseE : Emb Lease := ⟨Lease.av, _, fun _ => rfl, fun _ => rfl⟩
/-- Leases, not reckoned out. -/
structure EmL where
  l : Emb Lease
  ok : l.v = Lease.av
def emL0 : EmL := ⟨leaseE, rfl⟩
theorem EmL.row (F : EmL) (a b c d e : Int) : F.l.v ⟨a, b, c, d, e⟩ = .agg [.int .i64 a, .int .i64 b, .int .i64 c, .int .i64 d, .int .i64 e] := by rw [F.ok]; rfl
theorem EmL.get (F : EmL) {l : List Lease} {j : Nat} {a b c d e : Int} (h : l[j]? = some ⟨a, b, c, d, e⟩) : (F.l.l l)[j]? = some (.agg [.int .i64 a, .int .i64 b, .int .i64 c, .int .i64 d, .int .i64 e]) := by rw [F.l.get h, F.row]
/-- What a closure tells of leases. -/
def Tells (P : Program) (F : EmL) (g : FuncId) (caps : List AV) (so : Lease → Bool) : Prop := purL caps = true ∧ Ent P g ∧ ∀ x, TPure P g (F.l.v x :: caps) (.bool (so x))
def firstI (so : Lease → Bool) : List Lease → Nat → Int
  | [], _ => -1
  | x :: l, n => if so x then (n : Int) else firstI so l (n + 1)
theorem firstI_drop {so : Lease → Bool} : ∀ {l : List Lease} {j n : Nat} {x : Lease}, l[j]? = some x → firstI so (l.drop j) n = if so x then (n : Int) else firstI so (l.drop (j + 1)) (n + 1)
  | [], j, n, x, h => by simp at h
  | y :: l, 0, n, x, h => by simp at h; subst h; rfl
  | y :: l, j + 1, n, x, h => by simp only [List.drop_succ_cons]; exact firstI_drop (by simpa using h)
theorem index81 (A : Ar) (E : Em) (F : EmL) {P : Program} (hP : P = Try.prog) (g : FuncId) (caps : List AV) (so : Lease → Bool) (hg : Tells P F g caps so) (l : List Lease) (hl : l.length ≤ 1000000) : TPure P 81 [.sl 5 (F.l.l l), .func (.func g) [] caps] (.int .i64 (firstI so l 0)) := by
  refine TPure.ofE A T0 (T0_ok hP) (hP ▸ Try.func81) rfl _ rfl (by simp) ?_
  obtain ⟨hc, he, hg⟩ := hg
  have hll := F.l.len l
  obtain ⟨r, hr⟩ : ∃ r, firstI so l 0 = r := ⟨_, rfl⟩
  rw [hr]
  cbv
  ((try cbv) <;> (repeat ((with_reducible refine EW.of ?_); cbv)))
  obtain ⟨S, hS⟩ : ∃ S : LI Nat, S = ⟨fun j => [(8, .int .i64 j), (7, .int .i64 (A.len (F.l.l l))), (0, .sl 5 (F.l.l l)), (1, .func (.func g) [] caps)], fun _ => [], fun j => j ≤ l.length ∧ firstI so (l.drop j) j = r, fun j => l.length - j⟩ := ⟨_, rfl⟩
  refine TW.loopQ A (T0_ok hP) S _ rfl 0 ?_ ?_ ?_
  · rw [hS]; exact ⟨Nat.zero_le _, hr⟩
  · rw [hS]; cbv; (repeat (first | exact trivial | refine And.intro (Emb.Pur _ _) ?_ | refine And.intro rfl ?_ | refine And.intro (Pur.mk rfl) ?_ | refine And.intro (Pur.mk (by assumption)) ?_))
  intro j hj l1 L1 e1 e2; rw [hS] at hj e1 e2; dsimp only at hj e1 e2; obtain ⟨hj, hinv⟩ := hj; subst e1 e2
  cbv
  ((try cbv) <;> (repeat ((with_reducible refine EW.of ?_); cbv)))
  refine bsplit (fun h => ?_) (fun h => ?_)
  · have h : j < (F.l.l l).length := lt_nt h rfl (A.ok_len _)
    obtain ⟨x, hx⟩ : ∃ x, l[j]? = some x := ⟨_, List.getElem?_eq_getElem (by omega)⟩
    rw [firstI_drop hx] at hinv
    have hgx := hg x
    generalize so x = b at hgx hinv
    obtain ⟨x1, x2, x3, x4, x5⟩ := x
    rw [F.row] at hgx
    ((try cbv) <;> (repeat ((with_reducible refine EW.of ?_); cbv)))
    refine ⟨j, _, rfl, F.get hx, ?_⟩
    cbv
    ((try cbv) <;> (repeat ((with_reducible refine EW.of ?_); cbv)))
    refine ⟨he, ?_⟩
    refine TC.pure hgx (by simpa [purL, AV.pur] using hc) ?_
    cases b with
    | true =>
      replace hinv : (j : Int) = r := hinv
      subst hinv
      ((try cbv) <;> (repeat ((with_reducible refine EW.of ?_); cbv)))
    | false =>
      replace hinv : firstI so (l.drop (j + 1)) (j + 1) = r := hinv
      ((try cbv) <;> (repeat ((with_reducible refine EW.of ?_); cbv)))
      refine LM.ofQ (j + 1) rfl ?_ ?_ ?_
      · rw [hS]; exact ⟨by show j + 1 ≤ _; omega, hinv⟩
      · rw [hS]; show l.length - (j + 1) < l.length - j; omega
      · rw [hS]; (cbv; (repeat (first | exact trivial | refine And.intro (Emb.Pur _ _) ?_ | refine And.intro rfl ?_ | refine And.intro (Pur.mk rfl) ?_ | refine And.intro (Pur.mk (by assumption)) ?_)); refine And.intro (inc_eq A (by omega)) ?_; (repeat (first | exact trivial | refine And.intro (Emb.Pur _ _) ?_ | refine And.intro rfl ?_ | refine And.intro (Pur.mk rfl) ?_ | refine And.intro (Pur.mk (by assumption)) ?_)))
  · have h : (F.l.l l).length ≤ j := lt_nf h rfl (A.ok_len _)
    rw [List.drop_eq_nil_of_le (by omega)] at hinv
    replace hinv : (-1 : Int) = r := hinv
    subst hinv
    ((try cbv) <;> (repeat ((with_reducible refine EW.of ?_); cbv)))
end Go.Proofs.Ytpjibokaeefhiaa
