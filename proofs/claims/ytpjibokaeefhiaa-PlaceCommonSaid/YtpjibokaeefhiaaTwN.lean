import Derived.Test.YtpjibokaeefhiaaTwM
/-! The abstract walk, reckoned out. -/
namespace Go.Proofs.Ytpjibokaeefhiaa.Tw
open Go.RowKit
set_option linter.unusedVariables false
set_option linter.unusedSimpArgs false
/-- What is asked of types. -/
structure TyOps where
  u : TypeId → Option TypeDesc
  i : TypeId → Bool
  c : TypeId → Nat
  b : TypeId → Nat
  z : TypeId → Option Value
abbrev tyOf (P : Program) : TyOps := ⟨P.underlying, fun t => (P.info? t).isSome, P.cellsOf, P.bytesOf, fun t => (P.info? t).bind (·.zero)⟩
/-- Arithmetic that is not reckoned out, with its laws. -/
structure Ar where
  lt : Int → Int → Bool
  le : Int → Int → Bool
  eq : Int → Int → Bool
  seq : ByteArray → ByteArray → Bool
  beq : Bool → Bool → Bool
  bnot : Bool → Bool
  bsel : Bool → Bool → Bool → Bool
  op : BinOp → IntKind → Int → Int → Int
  neg : IntKind → Int → Int
  inv : IntKind → Int → Int
  wrap : IntKind → Int → Int
  mn : Int → Int → Int
  mx : Int → Int → Int
  len : List AV → Int
  slen : ByteArray → Int
  cat : ByteArray → ByteArray → ByteArray
  byte : UInt8 → Int
  nat : Nat → Int
  ok_lt : ∀ a b, lt a b = decide (a < b)
  ok_le : ∀ a b, le a b = decide (a ≤ b)
  ok_eq : ∀ a b, eq a b = decide (a = b)
  ok_seq : ∀ a b, seq a b = strEq a b
  ok_beq : ∀ a b, beq a b = (a == b)
  ok_bnot : ∀ a, bnot a = !a
  ok_bsel : ∀ t a b, bsel t a b = if t then a else b
  ok_add : ∀ k a b, op .add k a b = k.wrap (a + b)
  ok_sub : ∀ k a b, op .sub k a b = k.wrap (a - b)
  ok_mul : ∀ k a b, op .mul k a b = k.wrap (a * b)
  ok_quo : ∀ k a b, op .quo k a b = k.wrap (a.tdiv b)
  ok_rem : ∀ k a b, op .rem k a b = a.tmod b
  ok_shl : ∀ k a b, op .shl k a b = k.wrap (a * 2 ^ min b.toNat k.bits)
  ok_shr : ∀ k a b, op .shr k a b = a.fdiv (2 ^ min b.toNat k.bits)
  ok_and : ∀ k a b, op .and k a b = k.wrap (BitVec.ofInt k.bits a &&& BitVec.ofInt k.bits b).toNat
  ok_or : ∀ k a b, op .or k a b = k.wrap (BitVec.ofInt k.bits a ||| BitVec.ofInt k.bits b).toNat
  ok_xor : ∀ k a b, op .xor k a b = k.wrap (BitVec.ofInt k.bits a ^^^ BitVec.ofInt k.bits b).toNat
  ok_andn : ∀ k a b, op .andNot k a b = k.wrap (BitVec.ofInt k.bits a &&& ~~~(BitVec.ofInt k.bits b)).toNat
  ok_neg : ∀ k n, neg k n = k.wrap (0 - n)
  ok_inv : ∀ (k : IntKind) n, inv k n = k.wrap (BitVec.ofInt k.bits (if k.signed then -1 else k.max) ^^^ BitVec.ofInt k.bits n).toNat
  ok_wrap : ∀ (k : IntKind) n, wrap k n = k.wrap n
  ok_mn : ∀ a b, mn a b = if b < a then b else a
  ok_mx : ∀ a b, mx a b = if b > a then b else a
  ok_len : ∀ l, len l = l.length
  ok_slen : ∀ s, slen s = s.size
  ok_cat : ∀ a b, cat a b = a ++ b
  ok_byte : ∀ b, byte b = b.toNat
  ok_nat : ∀ n, nat n = n
/-- The arithmetic there is. -/
def ar0 : Ar where
  lt a b := decide (a < b)
  le a b := decide (a ≤ b)
  eq a b := decide (a = b)
  seq := strEq
  beq a b := a == b
  bnot a := !a
  bsel t a b := if t then a else b
  op o k a b := match o with
    | .add => k.wrap (a + b)
    | .sub => k.wrap (a - b)
    | .mul => k.wrap (a * b)
    | .quo => k.wrap (a.tdiv b)
    | .rem => a.tmod b
    | .shl => k.wrap (a * 2 ^ min b.toNat k.bits)
    | .shr => a.fdiv (2 ^ min b.toNat k.bits)
    | .and => k.wrap (BitVec.ofInt k.bits a &&& BitVec.ofInt k.bits b).toNat
    | .or => k.wrap (BitVec.ofInt k.bits a ||| BitVec.ofInt k.bits b).toNat
    | .xor => k.wrap (BitVec.ofInt k.bits a ^^^ BitVec.ofInt k.bits b).toNat
    | .andNot => k.wrap (BitVec.ofInt k.bits a &&& ~~~(BitVec.ofInt k.bits b)).toNat
    | _ => 0
  neg k n := k.wrap (0 - n)
  inv k n := k.wrap (BitVec.ofInt k.bits (if k.signed then -1 else k.max) ^^^ BitVec.ofInt k.bits n).toNat
  wrap k n := k.wrap n
  mn a b := if b < a then b else a
  mx a b := if b > a then b else a
  len l := l.length
  slen s := s.size
  cat a b := a ++ b
  byte b := b.toNat
  nat n := n
  ok_lt _ _ := rfl
  ok_le _ _ := rfl
  ok_eq _ _ := rfl
  ok_seq _ _ := rfl
  ok_beq _ _ := rfl
  ok_bnot _ := rfl
  ok_bsel _ _ _ := rfl
  ok_add _ _ _ := rfl
  ok_sub _ _ _ := rfl
  ok_mul _ _ _ := rfl
  ok_quo _ _ _ := rfl
  ok_rem _ _ _ := rfl
  ok_shl _ _ _ := rfl
  ok_shr _ _ _ := rfl
  ok_and _ _ _ := rfl
  ok_or _ _ _ := rfl
  ok_xor _ _ _ := rfl
  ok_andn _ _ _ := rfl
  ok_neg _ _ := rfl
  ok_inv _ _ := rfl
  ok_wrap _ _ := rfl
  ok_mn _ _ := rfl
  ok_mx _ _ := rfl
  ok_len _ := rfl
  ok_slen _ := rfl
  ok_cat _ _ := rfl
  ok_byte _ := rfl
  ok_nat _ := rfl
/-- A thing that is owed, ahead of another one. -/
structure Nd (p : Unit → Prop) (K : Prop) : Prop where
  h : p ()
  k : K
def chk (b : Bool) (K : Prop) : Prop :=
  match b with
  | true => K
  | false => False
theorem chk_iff {b : Bool} {K : Prop} : chk b K ↔ b = true ∧ K := by cases b <;> simp [chk]
def ebin (A : Ar) (T : TyOps) (t : TypeId) (op : BinOp) (x y : AV) (K : AV → Prop) : Prop :=
  match x, y with
  | .int k a, .int k' b =>
    match op with
    | .shl => Nd (fun _ => 0 ≤ b) (K (.int k (A.op .shl k a b)))
    | .shr => Nd (fun _ => 0 ≤ b) (K (.int k (A.op .shr k a b)))
    | .add => chk (k == k') (K (.int k (A.op .add k a b)))
    | .sub => chk (k == k') (K (.int k (A.op .sub k a b)))
    | .mul => chk (k == k') (K (.int k (A.op .mul k a b)))
    | .quo => chk (k == k') (Nd (fun _ => b ≠ 0) (K (.int k (A.op .quo k a b))))
    | .rem => chk (k == k') (Nd (fun _ => b ≠ 0) (K (.int k (A.op .rem k a b))))
    | .and => chk (k == k') (K (.int k (A.op .and k a b)))
    | .or => chk (k == k') (K (.int k (A.op .or k a b)))
    | .xor => chk (k == k') (K (.int k (A.op .xor k a b)))
    | .andNot => chk (k == k') (K (.int k (A.op .andNot k a b)))
    | .eql => chk (k == k') (K (.bool (A.eq a b)))
    | .neq => chk (k == k') (K (.bool (A.bnot (A.eq a b))))
    | .lss => chk (k == k') (K (.bool (A.lt a b)))
    | .leq => chk (k == k') (K (.bool (A.le a b)))
    | .gtr => chk (k == k') (K (.bool (A.lt b a)))
    | .geq => chk (k == k') (K (.bool (A.le b a)))
  | .str a, .str b =>
    match op with
    | .add => Nd (fun _ => a.size + b.size ≤ 9223372036854775807) (K (.str (A.cat a b)))
    | .eql => K (.bool (A.seq a b))
    | .neq => K (.bool (A.bnot (A.seq a b)))
    | _ => False
  | .bool a, .bool b =>
    match op, T.u t with
    | .eql, some .bool => K (.bool (A.beq a b))
    | .neq, some .bool => K (.bool (A.bnot (A.beq a b)))
    | _, _ => False
  | .ref .., .nil | .imm .., .nil =>
    match op, T.u t with
    | .eql, some (.pointer _) => K (.bool false)
    | .neq, some (.pointer _) => K (.bool true)
    | _, _ => False
  | .nil, .nil =>
    match op, T.u t with
    | .eql, some (.pointer _) => K (.bool true)
    | .neq, some (.pointer _) => K (.bool false)
    | _, _ => False
  | .func .., .nilf =>
    match op with
    | .eql => chk (nilT 0 (T.u t)) (K (.bool false))
    | .neq => chk (nilT 0 (T.u t)) (K (.bool true))
    | _ => False
  | .nilf, .nilf =>
    match op with
    | .eql => chk (nilT 0 (T.u t)) (K (.bool true))
    | .neq => chk (nilT 0 (T.u t)) (K (.bool false))
    | _ => False
  | .row .., .nils =>
    match op with
    | .eql => chk (nilT 1 (T.u t)) (K (.bool false))
    | .neq => chk (nilT 1 (T.u t)) (K (.bool true))
    | _ => False
  | .nils, .nils =>
    match op with
    | .eql => chk (nilT 1 (T.u t)) (K (.bool true))
    | .neq => chk (nilT 1 (T.u t)) (K (.bool false))
    | _ => False
  | .ifc _ _, .raw .nilIface =>
    match op with
    | .eql => chk (nilT 2 (T.u t)) (K (.bool false))
    | .neq => chk (nilT 2 (T.u t)) (K (.bool true))
    | _ => False
  | _, _ => False
theorem ptr_pointee {P : Program} {t e : TypeId} (h : P.underlying t = some (.pointer e)) : P.underlying t = some (.pointer (P.pointee t)) := by
  have : P.pointee t = e := by simp [Program.pointee, h]
  rw [this]; exact h
theorem ebin_ok {A : Ar} {P : Program} {t : TypeId} {op : BinOp} {x y : AV} {K : AV → Prop} (h : ebin A (tyOf P) t op x y K) : abin P t op x y K := by
  unfold ebin at h
  unfold abin
  split at h
  · cases op <;> dsimp only at h ⊢ <;> first
      | (obtain ⟨h1, h⟩ := chk_iff.1 h; refine ⟨by simpa using h1, ?_⟩; first
          | (obtain ⟨h2, h⟩ := h; refine ⟨h2, ?_⟩; first | rwa [A.ok_quo] at h | rwa [A.ok_rem] at h)
          | rwa [A.ok_add] at h | rwa [A.ok_sub] at h | rwa [A.ok_mul] at h | rwa [A.ok_and] at h | rwa [A.ok_or] at h | rwa [A.ok_xor] at h | rwa [A.ok_andn] at h
          | rwa [A.ok_eq] at h | rwa [A.ok_bnot, A.ok_eq] at h | rwa [A.ok_lt] at h | rwa [A.ok_le] at h)
      | (obtain ⟨h1, h⟩ := h; refine ⟨h1, ?_⟩; first | rwa [A.ok_shl] at h | rwa [A.ok_shr] at h)
  · cases op <;> dsimp only at h ⊢ <;> first
      | (obtain ⟨h1, h⟩ := h; exact ⟨h1, by rwa [A.ok_cat] at h⟩)
      | rwa [A.ok_seq] at h
      | rwa [A.ok_bnot, A.ok_seq] at h
      | exact h
  · split at h
    · rename_i hu; exact ⟨hu, by rwa [A.ok_beq] at h⟩
    · rename_i hu; exact ⟨hu, by rwa [A.ok_bnot, A.ok_beq] at h⟩
    · exact h.elim
  · split at h
    · rename_i e hu; exact ⟨ptr_pointee hu, h⟩
    · rename_i e hu; exact ⟨ptr_pointee hu, h⟩
    · exact h.elim
  · split at h
    · rename_i e hu; exact ⟨ptr_pointee hu, h⟩
    · rename_i e hu; exact ⟨ptr_pointee hu, h⟩
    · exact h.elim
  · split at h
    · rename_i e hu; exact ⟨ptr_pointee hu, h⟩
    · rename_i e hu; exact ⟨ptr_pointee hu, h⟩
    · exact h.elim
  all_goals first
    | exact h.elim
    | (cases op <;> dsimp only at h ⊢ <;> first | exact h.elim | exact ⟨(chk_iff.1 h).1, (chk_iff.1 h).2⟩)
def eun (A : Ar) (op : UnOp) (x : AV) (K : AV → Prop) : Prop :=
  match op, x with
  | .neg, .int k n => K (.int k (A.neg k n))
  | .xor, .int k n => K (.int k (A.inv k n))
  | .not, .bool b => K (.bool (match b with | true => false | false => true))
  | _, _ => False
theorem eun_ok {A : Ar} {op : UnOp} {x : AV} {K : AV → Prop} (h : eun A op x K) : aun op x K := by
  unfold eun at h
  unfold aun
  split at h
  · rwa [A.ok_neg] at h
  · rwa [A.ok_inv] at h
  · rename_i b; cases b <;> exact h
  · exact h.elim
def eload (T : TyOps) (t : TypeId) (cs : List AV) (K : AV → Prop) : Prop :=
  match T.u t with
  | some (.struct _) => chk (T.i t && decide (T.c t ≤ cs.length)) (K (.agg (cs.take (T.c t))))
  | some (.array _ _) => chk (T.i t && decide (T.c t ≤ cs.length)) (K (.agg (cs.take (T.c t))))
  | some _ => match cs with | c :: _ => K c | [] => False
  | none => False
theorem eload_ok {P : Program} {t : TypeId} {cs : List AV} {K : AV → Prop} (h : eload (tyOf P) t cs K) : aload P t cs K := by
  unfold eload at h
  unfold aload
  dsimp only at h
  split at h
  · rename_i hu; simp only [hu]; obtain ⟨h1, h⟩ := chk_iff.1 h; simp at h1; exact ⟨h1.1, h1.2, h⟩
  · rename_i hu; simp only [hu]; obtain ⟨h1, h⟩ := chk_iff.1 h; simp at h1; exact ⟨h1.1, h1.2, h⟩
  · rename_i d hn1 hn2 hu
    simp only [hu]
    cases d <;> first | exact h | exact absurd rfl (hn1 _) | exact absurd rfl (hn2 _ _)
  · exact h.elim
def eref (L : Store) (p w i : Nat) (K : AV → Prop) : Prop :=
  match (L[p]?).join with
  | some (.box w' e) => chk (w' == w && i == 0) (K e)
  | some (.arr w' els) => chk (w' == w) (∃ e, els[i]? = some e ∧ K e)
  | _ => False
theorem eref_ok {L : Store} {p w i : Nat} {K K' : AV → Prop} (hK : ∀ e, K e → K' e) (h : eref L p w i K) : aref L p w i K' := by
  unfold eref at h
  split at h
  · rename_i w' e ho
    obtain ⟨h1, hh⟩ := chk_iff.1 h
    simp at h1
    obtain ⟨rfl, rfl⟩ := h1
    exact ⟨[e], by simp [aobj, ho, AO.norm], e, rfl, hK _ hh⟩
  · rename_i w' els ho
    obtain ⟨h1, e, he, hh⟩ := chk_iff.1 h
    simp at h1
    subst h1
    exact ⟨els, by simp [aobj, ho, AO.norm], e, he, hK _ hh⟩
  · exact h.elim
def eloadAt (T : TyOps) (L : Store) (t : TypeId) (a : AV) (K : AV → Prop) : Prop :=
  match a with
  | .ref p w i f => eref L p w i fun e => eload T t (e.cells.drop f) K
  | .imm cs => eload T t cs K
  | _ => False
theorem eloadAt_ok {P : Program} {L : Store} {t : TypeId} {a : AV} {K : AV → Prop} (h : eloadAt (tyOf P) L t a K) : aloadAt P L t a K := by
  unfold eloadAt at h
  unfold aloadAt
  split at h
  · exact eref_ok (fun e h => eload_ok h) h
  · exact eload_ok h
  · exact h.elim
def efaddr (T : TyOps) (s : TypeId) (x : AV) (f : Nat) (K : AV → Prop) : Prop :=
  match T.u s with
  | some (.struct fields) =>
    match fields[f]? with
    | some fd => chk (T.i fd.type && T.c fd.type != 0)
      (match x with
      | .ref p w i o => K (.ref p w i (o + fd.offset))
      | .imm cs => K (.imm (cs.drop fd.offset))
      | _ => False)
    | none => False
  | _ => False
theorem efaddr_ok {P : Program} {s : TypeId} {x : AV} {f : Nat} {K : AV → Prop} (h : efaddr (tyOf P) s x f K) : afaddr P s x f K := by
  unfold efaddr at h
  unfold afaddr
  dsimp only at h
  split at h
  · rename_i fields hu
    simp only [hu]
    split at h
    · rename_i fd hf
      simp only [hf]
      obtain ⟨h1, h⟩ := chk_iff.1 h
      simp at h1
      exact ⟨⟨h1.1, h1.2⟩, h⟩
    · exact h.elim
  · exact h.elim
def eixArr (b : Bool) (c n : Nat) (i : Int) (K : Nat → Prop) : Prop := chk b (∃ k : Nat, i = k ∧ k < n ∧ K (k * c))
def eiaddr (T : TyOps) (t : TypeId) (x ix : AV) (K : AV → Prop) : Prop :=
  match ix with
  | .int _ i =>
    match T.u t, x with
    | some (.slice e), .sl w els => chk (T.i e && T.c e == w) (∃ (k : Nat) (el : AV), i = k ∧ els[k]? = some el ∧ K (.imm el.cells))
    | some (.slice e), .slt w els => chk (T.i e && T.c e == w) (∃ (k : Nat) (el : AV), i = k ∧ els[k]? = some el ∧ K (.imm el.cells))
    | some (.slice e), .row p w off n => chk (T.i e && T.c e == w) (∃ k : Nat, i = k ∧ k < n ∧ K (.ref p w (off + k) 0))
    | some (.array n e), .ref p w i0 f => eixArr (T.i e) (T.c e) n i fun o => K (.ref p w i0 (f + o))
    | some (.array n e), .imm cs => eixArr (T.i e) (T.c e) n i fun o => K (.imm (cs.drop o))
    | _, _ => False
  | _ => False
theorem eiaddr_ok {P : Program} {t : TypeId} {x ix : AV} {K : AV → Prop} (h : eiaddr (tyOf P) t x ix K) : aiaddr P t x ix K := by
  unfold eiaddr at h
  unfold aiaddr
  split at h
  · dsimp only at h
    split at h
    · rename_i hu
      simp only [hu]
      obtain ⟨h1, k, el, rfl, he, h⟩ := chk_iff.1 h
      simp at h1
      exact ⟨⟨h1.1, h1.2⟩, by omega, el, by simpa using he, h⟩
    · rename_i hu
      simp only [hu]
      obtain ⟨h1, k, el, rfl, he, h⟩ := chk_iff.1 h
      simp at h1
      exact ⟨⟨h1.1, h1.2⟩, by omega, el, by simpa using he, h⟩
    · rename_i hu
      simp only [hu]
      obtain ⟨h1, k, rfl, hk, h⟩ := chk_iff.1 h
      simp at h1
      exact ⟨⟨h1.1, h1.2⟩, by omega, by omega, by simpa using h⟩
    · rename_i hu
      simp only [hu]
      obtain ⟨h1, k, rfl, hk, h⟩ := chk_iff.1 h
      exact ⟨h1, by omega, by omega, by simpa using h⟩
    · rename_i hu
      simp only [hu]
      obtain ⟨h1, k, rfl, hk, h⟩ := chk_iff.1 h
      exact ⟨h1, by omega, by omega, by simpa using h⟩
    · exact h.elim
  · exact h.elim
def efield (T : TyOps) (t : TypeId) (x : AV) (f : Nat) (K : AV → Prop) : Prop :=
  match T.u t, x with
  | some (.struct fields), .agg cs => match fields[f]? with
    | some fd => eload T fd.type (cs.drop fd.offset) K
    | none => False
  | _, _ => False
theorem efield_ok {P : Program} {t : TypeId} {x : AV} {f : Nat} {K : AV → Prop} (h : efield (tyOf P) t x f K) : afield P t x f K := by
  unfold efield at h
  unfold afield
  dsimp only at h
  split at h
  · rename_i hu
    simp only [hu]
    split at h
    · rename_i hf; simp only [hf]; exact eload_ok h
    · exact h.elim
  · exact h.elim
def eindex (A : Ar) (T : TyOps) (t : TypeId) (x ix : AV) (K : AV → Prop) : Prop :=
  match ix with
  | .int _ i =>
    match T.u t, x with
    | some .string, .str s => ∃ (k : Nat) (b : UInt8), i = k ∧ s.data[k]? = some b ∧ K (.int .u8 (A.byte b))
    | some (.array n e), .agg cs => eixArr (T.i e) (T.c e) n i fun o => eload T e (cs.drop o) K
    | _, _ => False
  | _ => False
theorem eindex_ok {A : Ar} {P : Program} {t : TypeId} {x ix : AV} {K : AV → Prop} (h : eindex A (tyOf P) t x ix K) : aindex P t x ix K := by
  unfold eindex at h
  unfold aindex
  split at h
  · dsimp only at h
    split at h
    · rename_i hu
      simp only [hu]
      obtain ⟨k, b, rfl, hb, h⟩ := h
      exact ⟨by omega, b, by simpa using hb, by rwa [A.ok_byte] at h⟩
    · rename_i hu
      simp only [hu]
      obtain ⟨h1, k, rfl, hk, h⟩ := chk_iff.1 h
      exact ⟨h1, by omega, by omega, by simpa using eload_ok h⟩
    · exact h.elim
  · exact h.elim
def elen (A : Ar) (T : TyOps) (t : TypeId) (x : AV) (K : AV → Prop) : Prop :=
  match T.u t, x with
  | some .string, .str s => K (.int .i64 (A.slen s))
  | some (.slice _), .nils => K (.int .i64 0)
  | some (.slice _), .sl _ els => K (.int .i64 (A.len els))
  | some (.slice _), .slt _ els => K (.int .i64 (A.len els))
  | some (.slice _), .row _ _ _ n => K (.int .i64 (A.nat n))
  | some (.array n _), _ => K (.int .i64 (A.nat n))
  | _, _ => False
theorem elen_ok {A : Ar} {P : Program} {t : TypeId} {x : AV} {K : AV → Prop} (h : elen A (tyOf P) t x K) : alen P t x K := by
  unfold elen at h
  unfold alen
  dsimp only at h
  split at h <;> rename_i hu <;> simp only [hu] <;> first
    | exact h
    | rwa [A.ok_slen] at h
    | rwa [A.ok_len] at h
    | rwa [A.ok_nat] at h
/-- A bound of a cut: its number is to be named. -/
def ebound (x : Option AV) (d : Nat) (K : Nat → Prop) : Prop :=
  match x with
  | none => K d
  | some (.int _ i) => ∃ k : Nat, i = k ∧ K k
  | _ => False
theorem ebound_ok {x : Option AV} {d : Nat} {K K' : Nat → Prop} (hK : ∀ n, K n → K' n) (h : ebound x d K) : abound x d K' := by
  unfold ebound at h
  unfold abound
  split at h
  · exact hK _ h
  · obtain ⟨k, rfl, h⟩ := h; exact ⟨by omega, by simpa using hK _ h⟩
  · exact h.elim
/-- What is cut out: to be named. -/
def ecut (els : List AV) (l h : Nat) (K : List AV → Prop) : Prop := ∃ es, es = (els.take h).drop l ∧ l ≤ h ∧ h ≤ els.length ∧ K es
def eslice (T : TyOps) (t : TypeId) (x : AV) (lo hi mx : Option AV) (K : AV → Prop) : Prop :=
  match T.u t, x, mx with
  | some .string, .str s, none => ebound lo 0 fun l => match hi with
    | none => ∃ r, r = s.extract l s.size ∧ l ≤ s.size ∧ K (.str r)
    | some hi => ebound (some hi) 0 fun h => ∃ r, r = s.extract l h ∧ l ≤ h ∧ h ≤ s.size ∧ K (.str r)
  | some (.slice e), .sl w els, none => chk (T.i e && T.c e == w) (ebound lo 0 fun l => match hi with
    | none => ∃ es, es = els.drop l ∧ l ≤ els.length ∧ K (.sl w es)
    | some hi => ebound (some hi) 0 fun h => ecut els l h fun es => K (.sl w es))
  | some (.slice e), .slt w els, none => chk (T.i e && T.c e == w) (ebound lo 0 fun l => match hi with
    | none => ∃ es, es = els.drop l ∧ l ≤ els.length ∧ K (.sl w es)
    | some hi => ebound (some hi) 0 fun h => ecut els l h fun es => K (.sl w es))
  | some (.slice e), .sl w els, some m => chk (T.i e && T.c e == w && hi.isSome) (ebound lo 0 fun l => ebound hi 0 fun h => ebound (some m) 0 fun m => h = m ∧ ecut els l h fun es => K (.slt w es))
  | some (.slice e), .slt w els, some m => chk (T.i e && T.c e == w && hi.isSome) (ebound lo 0 fun l => ebound hi 0 fun h => ebound (some m) 0 fun m => h = m ∧ ecut els l h fun es => K (.slt w es))
  | some (.slice e), .nils, none => chk (T.i e) (ebound lo 0 fun l => ebound hi 0 fun h => l ≤ h ∧ h ≤ 0 ∧ K .nils)
  | some (.slice e), .nils, some m => chk (T.i e && hi.isSome) (ebound lo 0 fun l => ebound hi 0 fun h => ebound (some m) 0 fun m => l ≤ h ∧ h = m ∧ h ≤ 0 ∧ K .nils)
  | some (.slice e), .row p w off n, none => chk (T.i e && T.c e == w) (match lo with
    | none => match hi with
      | none => K (.row p w off n)
      | some hi => ebound (some hi) 0 fun h => h ≤ n ∧ K (.row p w off h)
    | some l => ebound (some l) 0 fun l => ebound hi n fun h => (l < h ∧ h ≤ n ∧ K (.row p w (off + l) (h - l))) ∨ (l = h ∧ h ≤ n ∧ K (.sl w [])))
  | some (.slice e), .row p w off n, some m => chk (T.i e && T.c e == w && hi.isSome && lo.isNone) (ebound hi 0 fun h => ebound (some m) 0 fun m => h = m ∧ h ≤ n ∧ K (.row p w off h))
  | _, _, _ => False
theorem ebound_id {x : Option AV} {d : Nat} {K : Nat → Prop} (h : ebound x d K) : abound x d K := ebound_ok (fun _ h => h) h
theorem abound_none {d : Nat} {K : Nat → Prop} (h : K d) : abound none d K := h
theorem abound_some {x : AV} {d d' : Nat} {K : Nat → Prop} (h : abound (some x) d K) : abound (some x) d' K := by cases x <;> exact h
theorem eslice_ok {P : Program} {t : TypeId} {x : AV} {lo hi mx : Option AV} {K : AV → Prop} (h : eslice (tyOf P) t x lo hi mx K) : aslice P t x lo hi mx K := by
  unfold eslice at h
  unfold aslice
  dsimp only at h
  split at h
  · rename_i s hu
    simp only [hu]
    refine ebound_ok (fun l h => ?_) h
    split at h
    · obtain ⟨r, rfl, h1, h⟩ := h; exact ⟨h1, Nat.le_refl _, h⟩
    · exact abound_some (ebound_ok (fun n h => let ⟨r, e, h1, h2, h⟩ := h; ⟨h1, h2, e ▸ h⟩) h)
  · rename_i e w els hu
    simp only [hu]
    obtain ⟨h1, h⟩ := chk_iff.1 h
    simp at h1
    refine ⟨h1.1, h1.2, ebound_ok (fun l h => ?_) h⟩
    split at h
    · obtain ⟨es, rfl, h1, h⟩ := h; exact ⟨h1, Nat.le_refl _, by simpa using h⟩
    · exact abound_some (ebound_ok (fun n h => let ⟨r, e, h1, h2, h⟩ := h; ⟨h1, h2, e ▸ h⟩) h)
  · rename_i e w els hu
    simp only [hu]
    obtain ⟨h1, h⟩ := chk_iff.1 h
    simp at h1
    refine ⟨h1.1, h1.2, ebound_ok (fun l h => ?_) h⟩
    split at h
    · obtain ⟨es, rfl, h1, h⟩ := h; exact ⟨h1, Nat.le_refl _, by simpa using h⟩
    · exact abound_some (ebound_ok (fun n h => let ⟨r, e, h1, h2, h⟩ := h; ⟨h1, h2, e ▸ h⟩) h)
  · rename_i e w els m hu
    simp only [hu]
    obtain ⟨h1, h⟩ := chk_iff.1 h
    simp at h1
    refine ⟨h1.1.1, h1.1.2, h1.2, ebound_ok (fun l h => ?_) h⟩
    obtain ⟨v, rfl⟩ := Option.isSome_iff_exists.1 h1.2
    exact abound_some (ebound_ok (fun n h => ebound_ok (fun m h => let ⟨e0, r, e, h1, h2, h⟩ := h; ⟨h1, e0, h2, e ▸ h⟩) h) h)
  · rename_i e w els m hu
    simp only [hu]
    obtain ⟨h1, h⟩ := chk_iff.1 h
    simp at h1
    refine ⟨h1.1.1, h1.1.2, h1.2, ebound_ok (fun l h => ?_) h⟩
    obtain ⟨v, rfl⟩ := Option.isSome_iff_exists.1 h1.2
    exact abound_some (ebound_ok (fun n h => ebound_ok (fun m h => let ⟨e0, r, e, h1, h2, h⟩ := h; ⟨h1, e0, h2, e ▸ h⟩) h) h)
  · rename_i hu; simp only [hu]; obtain ⟨h1, h⟩ := chk_iff.1 h; exact ⟨h1, ebound_ok (fun l h => ebound_id h) h⟩
  · rename_i hu; simp only [hu]; obtain ⟨h1, h⟩ := chk_iff.1 h; simp at h1; exact ⟨h1.1, h1.2, ebound_ok (fun l h => ebound_ok (fun m h => ebound_id h) h) h⟩
  · rename_i hu
    simp only [hu]
    obtain ⟨h1, h⟩ := chk_iff.1 h
    simp at h1
    refine ⟨h1.1, h1.2, ?_⟩
    split at h
    · split at h
      · exact abound_none ⟨Nat.le_refl _, h⟩
      · exact abound_some (ebound_id h)
    · exact ebound_ok (fun l h => ebound_id h) h
  · rename_i hu
    simp only [hu]
    obtain ⟨h1, h⟩ := chk_iff.1 h
    simp at h1
    obtain ⟨v, rfl⟩ := Option.isSome_iff_exists.1 h1.1.2
    exact ⟨h1.1.1.1, h1.1.1.2, rfl, h1.2, abound_some (ebound_ok (fun n h => ebound_id h) h)⟩
  · exact h.elim
def econv (A : Ar) (T : TyOps) (src dst : TypeId) (x : AV) (K : AV → Prop) : Prop :=
  match T.u src, T.u dst, x with
  | some _, some (.int k), .int _ n => K (.int k (A.wrap k n))
  | some _, some .string, .str s => K (.str s)
  | some (.slice e), some .string, .nils => chk (match T.u e with | some (.int .u8) => true | _ => false) (K (.str .empty))
  | some (.slice e), some .string, .sl w els => chk ((match T.u e with | some (.int .u8) => true | _ => false) && w == 1) (∃ bs, els = bytesAV bs ∧ K (.str ⟨bs.toArray⟩))
  | some (.slice e), some .string, .slt w els => chk ((match T.u e with | some (.int .u8) => true | _ => false) && w == 1) (∃ bs, els = bytesAV bs ∧ K (.str ⟨bs.toArray⟩))
  | _, _, _ => False
theorem isU8 {o : Option TypeDesc} (h : (match o with | some (.int .u8) => true | _ => false) = true) : o = some (.int .u8) := by
  split at h
  · rfl
  · cases h
theorem econv_ok {A : Ar} {P : Program} {src dst : TypeId} {x : AV} {K : AV → Prop} (h : econv A (tyOf P) src dst x K) : aconv P src dst x K := by
  unfold econv at h
  unfold aconv
  dsimp only at h
  split at h
  · rename_i hs hd; simp only [hs, hd]; rwa [A.ok_wrap] at h
  · rename_i hs hd; simp only [hs, hd]; exact h
  · rename_i hs hd; simp only [hs, hd]; obtain ⟨h1, h⟩ := chk_iff.1 h; exact ⟨isU8 h1, h⟩
  · rename_i hs hd; simp only [hs, hd]; obtain ⟨h1, h⟩ := chk_iff.1 h; simp only [Bool.and_eq_true, beq_iff_eq] at h1; exact ⟨isU8 h1.1, h1.2, h⟩
  · rename_i hs hd; simp only [hs, hd]; obtain ⟨h1, h⟩ := chk_iff.1 h; simp only [Bool.and_eq_true, beq_iff_eq] at h1; exact ⟨isU8 h1.1, h1.2, h⟩
  · exact h.elim
def ezero (T : TyOps) (t : TypeId) : Option AV := (T.z t).map ofVal
def ebuild (T : TyOps) (t : TypeId) (parts : List (Nat × AV)) (K : AV → Prop) : Prop :=
  match ezero T t, T.u t with
  | some z, some (.struct fields) => chk (z.known && fields.toList.all (fun f => T.i f.type)) (match afill (fun i => (fields[i]?).map fun (f : Field) => (f.offset, T.c f.type)) z.cells parts with | some cs => K (.agg cs) | none => False)
  | some z, some (.array _ e) => chk (z.known && T.i e) (match afill (fun i => some (i * T.c e, T.c e)) z.cells parts with | some cs => K (.agg cs) | none => False)
  | _, _ => False
theorem ebuild_ok {P : Program} {t : TypeId} {parts : List (Nat × AV)} {K : AV → Prop} (h : ebuild (tyOf P) t parts K) : abuild P t parts K := by
  unfold ebuild at h
  unfold abuild
  dsimp only at h
  split at h
  · rename_i z fields hz hu
    have hz' : azero P t = some z := hz
    simp only [hu, hz']
    obtain ⟨h1, h⟩ := chk_iff.1 h
    simp only [Bool.and_eq_true, List.all_eq_true] at h1
    split at h
    · rename_i cs hf; exact ⟨h1.1, h1.2, cs, hf, h⟩
    · exact h.elim
  · rename_i z n e hz hu
    have hz' : azero P t = some z := hz
    simp only [hu, hz']
    obtain ⟨h1, h⟩ := chk_iff.1 h
    simp only [Bool.and_eq_true] at h1
    split at h
    · rename_i cs hf; exact ⟨h1.1, h1.2, cs, hf, h⟩
    · exact h.elim
  · exact h.elim
end Go.Proofs.Ytpjibokaeefhiaa.Tw
