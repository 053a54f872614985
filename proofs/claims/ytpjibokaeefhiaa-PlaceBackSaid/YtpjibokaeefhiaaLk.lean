import Derived.Test.YtpjibokaeefhiaaLj
import Derived.Test.YtpjibokaeefhiaaLh
/-! Two paths; within; the parent: as the program tells them. -/
namespace Go.Proofs.Ytpjibokaeefhiaa
open Go.Proofs.Ytpjibokaeefhiaa.Tw
def bothAV (o1 o2 : Option (List Int)) : AV := .tup [.sl 1 (ints (o1.getD [])), .sl 1 (ints (o2.getD [])), .bool (o1.isSome && o2.isSome)]
theorem both59 (A : Ar) {P : Program} (hP : P = Try.prog) (a b : Int) (n : Nat) (hn : n ≤ 1000000) (t : Tree) (hw : within n t) : TPure P 59 [t.av, .int .i64 a, .int .i64 b] (bothAV (pathT a t) (pathT b t)) := by
  have h1 := Path26 A hP a n hn t hw
  have h2 := Path26 A hP b n hn t hw
  refine TPure.of (TC.of_ewp A T0 (T0_ok hP) (hP ▸ Try.func59) rfl _ rfl (by simp) ?_)
  have hpt := t.av_pur
  obtain ⟨i, k, s, ks⟩ := t
  simp only [Tree.av] at h1 h2 hpt ⊢
  generalize avs ks = aks at h1 h2 hpt
  generalize pathT a (.node i k s ks) = o1 at h1
  generalize pathT b (.node i k s ks) = o2 at h2
  have hpu : ∀ x, purL [AV.agg [.int .i64 i, .int .i64 k, .str s, .sl 4 aks], AV.int .i64 x] = true := fun x => by
    simp only [AV.pur, purL] at hpt ⊢
    simpa using hpt
  simp only [pathAV] at h1 h2
  have hp1 := ints_pur (o1.getD [])
  have hp2 := ints_pur (o2.getD [])
  unfold bothAV
  generalize ints (o1.getD []) = i1 at h1 hp1
  generalize ints (o2.getD []) = i2 at h2 hp2
  generalize o1.isSome = b1 at h1
  generalize o2.isSome = b2 at h2
  cbv
  ((try cbv) <;> (repeat ((with_reducible refine EW.of ?_); cbv)))
  refine ⟨Ent.of (hP ▸ Try.func26) rfl, ?_⟩
  refine TC.pure h1 (hpu a) ?_
  cbv
  ((try cbv) <;> (repeat ((with_reducible refine EW.of ?_); cbv)))
  refine ⟨Ent.of (hP ▸ Try.func26) rfl, ?_⟩
  refine TC.pure h2 (hpu b) ?_
  cases b1 <;> cases b2
  all_goals
    cbv
    ((try cbv) <;> (repeat ((with_reducible refine EW.of ?_); cbv)))
    exact ⟨_, _, VSV.pure (by simp [aone, aget, agetL, AV.pur, purL, hp1, hp2]), rfl, rfl⟩
/-- Of arguments that say more. -/
theorem TPure.sub2 {P : Program} {f : FuncId} {a b a' b' r : AV} (h : TPure P f [a, b] r) (h1 : Tw.Sub a' a) (h2 : Tw.Sub b' b) : TPure P f [a', b'] r := fun w I vs hI hv => h w I vs hI ⟨hv.1, fun j v c hj hc => by
  match j, hc with
  | 0, hc => simp at hc; subst hc; exact h1 w I [] v (hv.2 0 v a' hj rfl)
  | 1, hc => simp at hc; subst hc; exact h2 w I [] v (hv.2 1 v b' hj rfl)
  | j + 2, hc => simp at hc⟩
theorem Within21 (A : Ar) {P : Program} (hP : P = Try.prog) (a b : Int) (n : Nat) (hn : n ≤ 1000000) (t : Tree) (hw : within n t) : TPure P 21 [t.av, .int .i64 a, .int .i64 b] (.bool (withinS t a b)) := by
  have h59 := both59 A hP a b n hn t hw
  refine TPure.of (TC.of_ewp A T0 (T0_ok hP) (hP ▸ Try.func21) rfl _ rfl (by simp) ?_)
  have hpt := t.av_pur
  have hl1 := fun p => pathT_len a t n p hw
  unfold withinS
  obtain ⟨i, k, s, ks⟩ := t
  simp only [Tree.av] at h59 hpt ⊢
  generalize avs ks = aks at h59 hpt
  have hpu : ∀ x y, purL [AV.agg [.int .i64 i, .int .i64 k, .str s, .sl 4 aks], AV.int .i64 x, AV.int .i64 y] = true := fun x y => by
    simp only [AV.pur, purL] at hpt ⊢
    simpa using hpt
  generalize pathT a (.node i k s ks) = o1 at h59 hl1
  generalize pathT b (.node i k s ks) = o2 at h59
  generalize hr : withinO o1 o2 = r
  simp only [bothAV] at h59
  generalize hi1 : ints (o1.getD []) = i1 at h59
  generalize hi2 : ints (o2.getD []) = i2 at h59
  cases hb : (o1.isSome && o2.isSome) with
  | false =>
    rw [hb] at h59
    have hrf : r = false := by
      subst hr
      cases o1 <;> cases o2 <;> simp [withinO] at hb ⊢
    cbv
    ((try cbv) <;> (repeat ((with_reducible refine EW.of ?_); cbv)))
    refine ⟨Ent.of (hP ▸ Try.func59) rfl, ?_⟩
    refine TC.pure h59 (hpu a b) ?_
    cbv
    ((try cbv) <;> (repeat ((with_reducible refine EW.of ?_); cbv)))
    refine ⟨_, _, VSV.pure rfl, ?_, rfl⟩
    rw [hrf]
    rfl
  | true =>
    rw [hb] at h59
    simp only [Bool.and_eq_true] at hb
    obtain ⟨p, rfl⟩ := Option.isSome_iff_exists.1 hb.1
    obtain ⟨q, rfl⟩ := Option.isSome_iff_exists.1 hb.2
    simp only [Option.getD_some] at hi1 hi2
    have hr : (decide (p.length ≤ q.length) && isPre p q) = r := hr
    cbv
    ((try cbv) <;> (repeat ((with_reducible refine EW.of ?_); cbv)))
    refine ⟨Ent.of (hP ▸ Try.func59) rfl, ?_⟩
    refine TC.pure h59 (hpu a b) ?_
    have hp1 := ints_len p
    have hp2 := ints_len q
    have hpl := hl1 p rfl
    have h60 := Equal60 A hP p (q.take p.length) (by omega)
    rw [hi1] at hp1 h60
    rw [hi2] at hp2
    have hpp := ints_pur p
    have hqq := ints_pur (q.take p.length)
    rw [hi1] at hpp
    have hes : ints (q.take p.length) = (i2.take p.length).drop 0 := by rw [← hi2, ints_take]; rfl
    generalize ints (q.take p.length) = ie at h60 hqq hes
    have hie : isPre p q = (p == q.take p.length) := rfl
    rw [← hie] at h60
    have hlen : A.len i1 = ((p.length : Nat) : Int) := (A.ok_len i1).trans (by rw [hp1])
    cbv
    ((try cbv) <;> (repeat ((with_reducible refine EW.of ?_); cbv)))
    refine bsplit (fun h => ?_) (fun h => ?_)
    · have h : i1.length ≤ i2.length := le_nt h (A.ok_len _) (A.ok_len _)
      have hle : decide (p.length ≤ q.length) = true := decide_eq_true (by omega)
      simp only [hle, Bool.true_and] at hr
      generalize p.length = m at *
      cbv
      ((try cbv) <;> (repeat ((with_reducible refine EW.of ?_); cbv)))
      refine ⟨m, hlen, m, hlen, rfl, ie, hes, Nat.zero_le _, by omega, ?_⟩
      cbv
      ((try cbv) <;> (repeat ((with_reducible refine EW.of ?_); cbv)))
      refine ⟨Ent.of (hP ▸ Try.func60) rfl, ?_⟩
      refine TC.pure (TPure.sub2 h60 (Sub.refl _) (Sub.slt 1 _)) (by simp [purL, AV.pur, hpp, hqq]) ?_
      rw [hr]
      cbv
      ((try cbv) <;> (repeat ((with_reducible refine EW.of ?_); cbv)))
      exact ⟨_, _, VSV.pure rfl, rfl, rfl⟩
    · have h : i2.length < i1.length := le_nf h (A.ok_len _) (A.ok_len _)
      have hle : decide (p.length ≤ q.length) = false := decide_eq_false (by omega)
      cbv
      ((try cbv) <;> (repeat ((with_reducible refine EW.of ?_); cbv)))
      refine ⟨_, _, VSV.pure rfl, ?_, rfl⟩
      simp only [hle, Bool.false_and] at hr
      rw [← hr]
      rfl
end Go.Proofs.Ytpjibokaeefhiaa
