import Derived.Test.YtlngpfocngfokaaGb
import Derived.Laws.Strings
/-! Kinds by their names. -/
namespace Go.Proofs.Ytlngpfocngfokaa
open Go.Proofs.Ytlngpfocngfokaa.Tw
theorem strEq_iff {a b : ByteArray} : strEq a b = true ↔ a = b := by
  unfold strEq
  rw [ByteArray.toList_eq, ByteArray.toList_eq]
  constructor
  · intro h
    have h := eq_of_beq h
    obtain ⟨x⟩ := a
    obtain ⟨y⟩ := b
    have : x = y := Array.toList_inj.1 h
    rw [this]
  · rintro rfl
    simp
theorem strEq_ne {a b : ByteArray} : strEq a b = false ↔ a ≠ b := by
  rw [← Bool.not_eq_true, strEq_iff]
/-- A map's entries: places by names. -/
abbrev EntS := List (Nat × ByteArray × Int)
def entS (x : Nat × ByteArray × Int) : Nat × AV × AV := (x.1, .str x.2.1, .int .i64 x.2.2)
def upS (c : Nat) (k : ByteArray) (v : Int) : EntS → Nat × EntS
  | [] => (c + 1, [(c, k, v)])
  | x :: m => if k = x.2.1 then (c, (x.1, k, v) :: m) else ((upS c k v m).1, x :: (upS c k v m).2)
def lkS (k : ByteArray) : EntS → Option Int
  | [] => none
  | x :: m => if k = x.2.1 then some x.2.2 else lkS k m
theorem keyS {k k' : ByteArray} : keyEq (.str k) (.str k') = decide (k = k') := by
  show (k == k') = _
  rw [Bool.eq_iff_iff, MapKept.bytes_beq, decide_eq_true_eq]
theorem up_entS (c : Nat) (k : ByteArray) (v : Int) : ∀ m : EntS, upA c (.str k) (.int .i64 v) (m.map entS) = ((upS c k v m).1, (upS c k v m).2.map entS)
  | [] => rfl
  | x :: m => by
    have ih := up_entS c k v m
    unfold upS
    by_cases h : k = x.2.1
    · rw [if_pos h]
      simp [upA, idxA, entS, keyS, h]
    · rw [if_neg h]
      unfold upA at ih ⊢
      rw [List.map_cons, idxA, if_neg (by simp [entS, keyS, h])]
      cases hi : idxA (.str k) (m.map entS) with
      | none => rw [hi] at ih; simp at ih ⊢; exact ⟨ih.1, ih.2⟩
      | some j => rw [hi] at ih; simp at ih ⊢; exact ⟨ih.1, ih.2⟩
theorem lk_entS (k : ByteArray) : ∀ m : EntS, lkA (.str k) (m.map entS) = (lkS k m).map fun i => .int .i64 i
  | [] => rfl
  | x :: m => by
    have ih := lk_entS k m
    unfold lkS
    by_cases h : k = x.2.1
    · rw [if_pos h]
      simp [lkA, idxA, entS, keyS, h]
    · rw [if_neg h, ← ih]
      unfold lkA
      rw [List.map_cons, idxA, if_neg (by simp [entS, keyS, h])]
      cases idxA (.str k) (m.map entS) <;> simp
/-- The entries behind a row of kinds. -/
def namesS : List Knd → Nat → Nat × EntS → Nat × EntS
  | [], _, s => s
  | k :: ks, j, s => namesS ks (j + 1) (upS s.1 k.name j s.2)
theorem namesS_drop {l : List Knd} {j : Nat} {x : Knd} {s : Nat × EntS} (h : l[j]? = some x) : namesS (l.drop j) j s = namesS (l.drop (j + 1)) (j + 1) (upS s.1 x.name j s.2) := by
  rw [List.drop_eq_getElem?_toList_append, h]
  rfl
/-- Entries, not reckoned out. -/
structure EmN where
  l : EntS → Ents
  ok : l = List.map entS
def emN0 : EmN := ⟨_, rfl⟩
namespace EmN
variable (H : EmN)
theorem pur (m : EntS) : PurM (H.l m) := ⟨fun x hx => by
  rw [H.ok] at hx
  obtain ⟨y, _, rfl⟩ := List.mem_map.1 hx
  exact ⟨rfl, rfl⟩⟩
theorem nil : H.l [] = [] := by rw [H.ok]; rfl
theorem len (m : EntS) : (H.l m).length = m.length := by rw [H.ok]; simp
theorem keys (m : EntS) (k : ByteArray) : Keys .string (.str k) (H.l m) := ⟨rfl, fun x hx => by
  rw [H.ok] at hx
  obtain ⟨y, _, rfl⟩ := List.mem_map.1 hx
  rfl⟩
theorem up (c : Nat) (k : ByteArray) (v : Int) (m : EntS) : upA c (.str k) (.int .i64 v) (H.l m) = ((upS c k v m).1, H.l (upS c k v m).2) := by rw [H.ok]; exact up_entS c k v m
theorem lk (k : ByteArray) (m : EntS) : lkA (.str k) (H.l m) = (lkS k m).map fun i => .int .i64 i := by rw [H.ok]; exact lk_entS k m
end EmN
set_option maxHeartbeats 1000000 in
theorem names40 (A : Ar) (G : EmG) (H : EmN) {P : Program} (hP : P = Try.prog) (ks : List Knd) (root : Int) (hk : ks.length ≤ 9223372036854775807) (c : Nat) (es : EntS) (h : namesS ks 0 (0, []) = (c, es)) :
    TC1 P 40 [.imm [.sl 3 (G.kind.l ks), .int .i64 root]] [] (.map 0) [some (.mp c (H.l es))] := by
  have hll := G.kind.len ks
  have hlk : A.len (G.kind.l ks) = (ks.length : Int) := by rw [A.ok_len, hll]
  refine TC1.of A _ _ T0 (T0_ok hP) (hP ▸ Try.func40) rfl _ rfl (by simp) ?_
  cbv
  ((try cbv) <;> (repeat ((with_reducible refine EW.of ?_); cbv)))
  obtain ⟨S, hS⟩ : ∃ S : LI (Nat × Nat × EntS), S = ⟨fun x => [(11, .int .i64 x.1), (10, .int .i64 (A.len (G.kind.l ks))), (3, .map 0), (0, .imm [.sl 3 (G.kind.l ks), .int .i64 root])], fun x => [some (.mp x.2.1 (H.l x.2.2))], fun x => x.1 ≤ ks.length ∧ namesS (ks.drop x.1) x.1 x.2 = (c, es), fun x => ks.length - x.1⟩ := ⟨_, rfl⟩
  refine TW.loopM A (T0_ok hP) S _ rfl (0, 0, []) ?_ ?_ ?_
  · rw [hS]; exact ⟨Nat.zero_le _, h⟩
  · rw [hS, ← H.nil]
    cbv
    (repeat (first | exact trivial | refine And.intro (H.pur _) ?_ | refine And.intro (Emb.Pur _ _) ?_ | refine And.intro (inc_eq A (by omega)) ?_ | refine And.intro rfl ?_ | refine And.intro H.nil.symm ?_ | refine And.intro (Pur.mk rfl) ?_))
  rintro ⟨j, c1, m⟩ hj l1 L1 e1 e2
  rw [hS] at hj e1 e2
  dsimp only at hj e1 e2
  obtain ⟨hj, hinv⟩ := hj
  subst e1
  subst e2
  cbv
  ((try cbv) <;> (repeat ((with_reducible refine EW.of ?_); cbv)))
  refine bsplit (fun h => ?_) (fun h => ?_)
  · have h : j < ks.length := lt_nt h rfl hlk
    obtain ⟨x, hx⟩ : ∃ x, ks[j]? = some x := ⟨_, List.getElem?_eq_getElem h⟩
    rw [namesS_drop hx] at hinv
    have hgx := G.getk hx
    have hkeys := H.keys m x.name
    have hup := H.up c1 x.name j m
    obtain ⟨c2, m2, hcm⟩ : ∃ c2 m2, upS c1 x.name j m = (c2, m2) := ⟨_, _, rfl⟩
    dsimp only at hinv
    rw [hcm] at hup hinv
    ((try cbv) <;> (repeat ((with_reducible refine EW.of ?_); cbv)))
    (refine ⟨_, _, rfl, hgx, ?_⟩; cbv; ((try cbv) <;> (repeat ((with_reducible refine EW.of ?_); cbv))))
    refine ⟨hkeys, _, _, hup, ?_⟩
    cbv
    ((try cbv) <;> (repeat ((with_reducible refine EW.of ?_); cbv)))
    refine LM.of (j + 1, c2, m2) rfl ?_ ?_ ?_
    · rw [hS]; exact ⟨by show j + 1 ≤ _; omega, hinv⟩
    · rw [hS]; show ks.length - (j + 1) < ks.length - j; omega
    · rw [hS]
      cbv
      (repeat (first | exact trivial | refine And.intro (H.pur _) ?_ | refine And.intro (Emb.Pur _ _) ?_ | refine And.intro (inc_eq A (by omega)) ?_ | refine And.intro rfl ?_ | refine And.intro H.nil.symm ?_ | refine And.intro (Pur.mk rfl) ?_))
  · have h : ks.length ≤ j := lt_nf h rfl hlk
    rw [List.drop_eq_nil_of_le h] at hinv
    obtain ⟨rfl, rfl⟩ : c1 = c ∧ m = es := by
      have : (c1, m) = (c, es) := hinv
      exact Prod.mk.inj this
    ((try cbv) <;> (repeat ((with_reducible refine EW.of ?_); cbv)))
    refine R1.of ?_
    cbv
    (repeat (first | exact trivial | refine And.intro (H.pur _) ?_ | refine And.intro (Emb.Pur _ _) ?_ | refine And.intro (inc_eq A (by omega)) ?_ | refine And.intro rfl ?_ | refine And.intro H.nil.symm ?_ | refine And.intro (Pur.mk rfl) ?_))
end Go.Proofs.Ytlngpfocngfokaa
