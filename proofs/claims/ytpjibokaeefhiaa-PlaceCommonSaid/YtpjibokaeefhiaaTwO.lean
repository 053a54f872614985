import Derived.Test.YtpjibokaeefhiaaTwN
/-! The abstract walk, reckoned out: operations, regions, code. -/
namespace Go.Proofs.Ytpjibokaeefhiaa.Tw
open Go.RowKit
set_option linter.unusedVariables false
set_option linter.unusedSimpArgs false
/-- A call, as a thing to be shown. -/
structure TC (P : Program) (f : FuncId) (args : List AV) (L : Store) (R : AEnd → Store → Prop) : Prop where
  h : TCall P f args L R
/-- A function may be entered, as a thing to be shown. -/
structure Ent (P : Program) (f : FuncId) : Prop where
  h : enterB P f = true
/-- A walk, as a thing to be shown. -/
structure TW (P : Program) (r : Option Nat) (K : Nat) (c : Code) (Q : AEx → AFr → Store → Prop) (fr : AFr) (L : Store) : Prop where
  h : Tw P r K c Q fr L
def epop (A : Ar) (T : TyOps) (L : Store) (op : Op) (fr : AFr) (K : AV → Prop) : Prop :=
  match op with
  | .move x => K (aval fr x)
  | .assign x => K (aval fr x)
  | .pick c a b => match aval fr c with
    | .bool t => match t with
      | true => K (aval fr a)
      | false => K (aval fr b)
    | _ => False
  | .load t a => eloadAt T L t (aval fr a) K
  | .nilCheck x => match aval fr x with
    | .ref p w i f => K (.ref p w i f)
    | .imm cs => K (.imm cs)
    | .func (.func f) fs cs => K (.func (.func f) fs cs)
    | .func (.yield f) fs cs => K (.func (.yield f) fs cs)
    | _ => False
  | .binOp op t x y _ => ebin A T t op (aval fr x) (aval fr y) K
  | .unOp op _ x => eun A op (aval fr x) K
  | .convert src dst x => econv A T src dst (aval fr x) K
  | .makeInterface t x => match T.u t with
    | some (.interface _) => False
    | some _ => K (.ifc t (aval fr x))
    | none => False
  | .makeFunc fn first captured => K (.func fn (first.toList.map (aval fr)) (captured.toList.map (aval fr)))
  | .slice t x lo hi mx => eslice T t (aval fr x) (lo.map (aval fr)) (hi.map (aval fr)) (mx.map (aval fr)) K
  | .fieldAddr s x f => efaddr T s (aval fr x) f K
  | .field t x f => efield T t (aval fr x) f K
  | .indexAddr t x ix => eiaddr T t (aval fr x) (aval fr ix) K
  | .index t x ix => eindex A T t (aval fr x) (aval fr ix) K
  | .extract t ix => match aval fr t with
    | .tup vs => match vs[ix]? with
      | some v => K v
      | none => False
    | _ => False
  | .build t parts => ebuild T t (parts.toList.map fun p => (p.1, aval fr p.2)) K
  | .call c => match c.callee with
    | .builtin .len => match c.args.toList, c.argTypes.toList with
      | [x], [t] => elen A T t (aval fr x) K
      | _, _ => False
    | .builtin .min => match c.args.toList with
      | [x, y] => match aval fr x, aval fr y with
        | .int k a, .int _ b => K (.int k (A.mn a b))
        | _, _ => False
      | _ => False
    | .builtin .max => match c.args.toList with
      | [x, y] => match aval fr x, aval fr y with
        | .int k a, .int _ b => K (.int k (A.mx a b))
        | _, _ => False
      | _ => False
    | _ => False
  | _ => False
theorem epop_ok {A : Ar} {P : Program} {L : Store} {o : Oper} {fr : AFr} {K : AV → Prop} (h : epop A (tyOf P) L o.op fr K) : pop P L o (aval fr) K := by
  obtain ⟨dst, op, type, pos, after, guard⟩ := o
  unfold epop at h
  unfold pop
  dsimp only at h ⊢
  cases op <;> dsimp only at h ⊢ <;> first | exact h.elim | exact h | exact eloadAt_ok h | exact ebin_ok h | exact eun_ok h | exact econv_ok h | exact eslice_ok h | exact efaddr_ok h | exact efield_ok h | exact eiaddr_ok h | exact eindex_ok h | exact ebuild_ok h | skip
  case pick c x y =>
    split at h
    · rename_i t hc
      simp only [hc]
      cases t
      · exact h
      · exact h
    · exact h.elim
  case extract t ix =>
    split at h
    · rename_i vs hv
      simp only [hv]
      split at h
      · rename_i v hx; exact ⟨v, hx, h⟩
      · exact h.elim
    · exact h.elim
  case call c =>
    obtain ⟨callee, args, ats⟩ := c
    cases callee <;> first | exact h.elim | skip
    rename_i b
    cases b <;> first | exact h.elim | skip
    case min =>
      change (match args.toList with | [x, y] => (match aval fr x, aval fr y with | .int k a, .int _ b => K (.int k (A.mn a b)) | _, _ => False) | _ => False) at h
      change (match args.toList with | [x, y] => (match aval fr x, aval fr y with | .int k a, .int _ b => K (.int k (if b < a then b else a)) | _, _ => False) | _ => False)
      split at h
      · split at h
        · rw [A.ok_mn] at h; simp_all
        · exact h.elim
      · exact h.elim
    case max =>
      change (match args.toList with | [x, y] => (match aval fr x, aval fr y with | .int k a, .int _ b => K (.int k (A.mx a b)) | _, _ => False) | _ => False) at h
      change (match args.toList with | [x, y] => (match aval fr x, aval fr y with | .int k a, .int _ b => K (.int k (if b > a then b else a)) | _, _ => False) | _ => False)
      split at h
      · split at h
        · rw [A.ok_mx] at h; simp_all
        · exact h.elim
      · exact h.elim
    change (match args.toList, ats.toList with | [x], [t] => elen A (tyOf P) t (aval fr x) K | _, _ => False) at h
    change (match args.toList, ats.toList with | [x], [t] => alen P t (aval fr x) K | _, _ => False)
    split at h
    · exact elen_ok h
    · exact h.elim
def ebox (K : Nat) (L : Store) (v : AV) (N : AV → Store → Prop) : Prop :=
  chk (v.known && Nat.ble K L.length) (N (.ref L.length v.cells.length 0 0) (L ++ [some (.box v.cells.length v)]))
theorem ebox_ok {K : Nat} {L : Store} {v : AV} {N : AV → Store → Prop} (h : ebox K L v N) : abox K L v N := by
  obtain ⟨h1, h⟩ := chk_iff.1 h
  simp only [Bool.and_eq_true, Nat.ble_eq] at h1
  exact ⟨h1.1, h1.2, h⟩
def ealloc (T : TyOps) (K : Nat) (L : Store) (t : TypeId) (N : AV → Store → Prop) : Prop :=
  match ezero T t with
  | some z => ebox K L z N
  | none => False
theorem ealloc_ok {P : Program} {K : Nat} {L : Store} {t : TypeId} {N : AV → Store → Prop} (h : ealloc (tyOf P) K L t N) : aalloc P K L t N := by
  unfold ealloc at h
  unfold aalloc
  split at h
  · rename_i z hz
    have hz' : azero P t = some z := hz
    simp only [hz']
    exact ebox_ok h
  · exact h.elim
def estore (T : TyOps) (L : Store) (t : TypeId) (a x : AV) (N : AV → Store → Prop) : Prop :=
  match a with
  | .ref p wd i f => match (L[p]?).join with
    | some (.box w' e) => chk (w' == wd && i == 0 && T.i t && x.known && x.cells.length == T.c t && Nat.ble (f + x.cells.length) wd && x.cells.all (·.scalar) && (aput e.cells f x.cells).all (·.scalar))
        (N .any (L.set p (some (.box wd (reCell e (aput e.cells f x.cells))))))
    | some (.arr w' els) => chk (w' == wd && T.i t && x.known && x.cells.length == T.c t && Nat.ble (f + x.cells.length) wd && x.cells.all (·.scalar))
        (∃ e es, els[i]? = some e ∧ es = els.set i (reCell e (aput e.cells f x.cells)) ∧ (aput e.cells f x.cells).all (·.scalar) = true ∧ N .any (L.set p (some (.arr wd es))))
    | _ => False
  | _ => False
theorem estore_ok {P : Program} {L : Store} {t : TypeId} {a x : AV} {N : AV → Store → Prop} (h : estore (tyOf P) L t a x N) : astore P L t a x N := by
  unfold estore at h
  unfold astore
  split at h
  · rename_i p wd i f
    split at h
    · rename_i w' e ho
      obtain ⟨h1, hN⟩ := chk_iff.1 h
      simp only [Bool.and_eq_true, Nat.ble_eq, beq_iff_eq] at h1
      obtain ⟨⟨⟨⟨⟨⟨⟨q1, q0⟩, q2⟩, q3⟩, q4⟩, q5⟩, q6⟩, q7⟩ := h1
      subst q1 q0
      refine ⟨[e], by simp [aobj, ho, AO.norm], e, rfl, ⟨q2, q3, q4, q5, q6, q7⟩, ?_⟩
      have hB : aobjB L p = true := by simp [aobjB, ho]
      simp only [hB]
      exact hN
    · rename_i w' els ho
      obtain ⟨h1, e, es, he, rfl, q7, hN⟩ := chk_iff.1 h
      simp only [Bool.and_eq_true, Nat.ble_eq, beq_iff_eq] at h1
      obtain ⟨⟨⟨⟨⟨q1, q2⟩, q3⟩, q4⟩, q5⟩, q6⟩ := h1
      subst q1
      refine ⟨els, by simp [aobj, ho, AO.norm], e, he, ⟨q2, q3, q4, q5, q6, q7⟩, ?_⟩
      have hB : aobjB L p = false := by simp [aobjB, ho]
      simp only [hB]
      exact hN
    · exact h.elim
  · exact h.elim
def eelem (T : TyOps) (e : TypeId) : Bool :=
  T.i e && (match T.z e with | some z => z.cells.size == T.c e | none => false)
theorem eelem_ok {P : Program} {e : TypeId} (h : eelem (tyOf P) e = true) : elemB P e (P.cellsOf e) (P.bytesOf e) = true := by
  unfold eelem at h
  unfold elemB
  simp only [Bool.and_eq_true] at h
  simp only [h.1, Bool.true_and, beq_self_eq_true]
  have h2 := h.2
  revert h2
  cases (P.info? e).bind (·.zero) <;> simp
def ebuildSlice (T : TyOps) (L : Store) (t : TypeId) (len : Nat) (parts : List (Nat × AV)) (N : AV → Store → Prop) : Prop :=
  match T.u t with
  | some (.slice e) => chk (eelem T e && Nat.ble (len * T.c e) 16777216 && parts.map (·.1) == List.range len && parts.all (fun p => p.2.known && p.2.cells.length == T.c e)) (N (.slt (T.c e) (parts.map (·.2))) L)
  | _ => False
theorem ebuildSlice_ok {P : Program} {K : Nat} {L : Store} {t : TypeId} {len : Nat} {parts : List (Nat × AV)} {N : AV → Store → Prop} (h : ebuildSlice (tyOf P) L t len parts N) : abuildSlice P K L t len parts N := by
  unfold ebuildSlice at h
  unfold abuildSlice
  dsimp only at h
  split at h
  · rename_i e hu
    simp only [hu]
    obtain ⟨h1, hN⟩ := chk_iff.1 h
    simp only [Bool.and_eq_true, Nat.ble_eq, beq_iff_eq] at h1
    obtain ⟨⟨⟨q1, q2⟩, q3⟩, q4⟩ := h1
    exact ⟨_, _, ⟨eelem_ok q1, q2, q3, by simpa using q4⟩, hN⟩
  · exact h.elim
def esrc (L : Store) (x : AV) (wd : Nat) (K : List AV → Prop) : Prop :=
  match x with
  | .nils => K []
  | .sl w els => chk (w == wd) (K els)
  | .slt w els => chk (w == wd) (K els)
  | .row p w off n => match (L[p]?).join with
    | some (.arr w' els) => chk (w == wd && w' == w) (∃ es, es = (els.drop off).take n ∧ off + n ≤ els.length ∧ K es)
    | _ => False
  | _ => False
theorem esrc_ok {L : Store} {x : AV} {wd : Nat} {K K' : List AV → Prop} (hK : ∀ l, K l → K' l) (h : esrc L x wd K) : asrc L x wd K' := by
  unfold esrc at h
  unfold asrc
  split at h
  · exact hK _ h
  · obtain ⟨h1, h⟩ := chk_iff.1 h; simp at h1; exact ⟨h1, hK _ h⟩
  · obtain ⟨h1, h⟩ := chk_iff.1 h; simp at h1; exact ⟨h1, hK _ h⟩
  · split at h
    · rename_i w' els ho
      obtain ⟨h1, es, rfl, hh, h2⟩ := chk_iff.1 h
      simp only [Bool.and_eq_true, beq_iff_eq] at h1
      obtain ⟨rfl, rfl⟩ := h1
      exact ⟨rfl, els, by simp [aobj, ho, AO.norm], hh, hK _ h2⟩
    · exact h.elim
  · exact h.elim
/-- A row's new length and contents, to be named. -/
def egrow (olds : List AV) (n : Nat) (els : List AV) (by' : Nat) (K : Nat → List AV → Prop) : Prop :=
  ∃ (q : Nat) (es : List AV), q = n + els.length ∧ es = olds.take n ++ els ∧ n ≤ olds.length ∧ q * by' ≤ 140737488355328 ∧ q ≤ 9223372036854775807 ∧ K q es
def escal (els : List AV) : Bool := els.all fun v => v.cells.all (·.scalar)
/-- Plain cells, as a thing to be shown. -/
structure Scal (els : List AV) : Prop where
  h : escal els = true
def eappend (T : TyOps) (K : Nat) (L : Store) (t : TypeId) (s x : AV) (N : AV → Store → Prop) : Prop :=
  match T.u t with
  | some (.slice e) => chk (eelem T e && Nat.ble K L.length) (esrc L x (T.c e) fun els => match s with
    | .nils => match els with
      | [] => N .nils L
      | x :: xs => Nd (fun _ => Scal (x :: xs)) (egrow [] 0 (x :: xs) (T.b e) fun q es => N (.row L.length (T.c e) 0 q) (L ++ [some (.arr (T.c e) es)]))
    | .sl w0 olds => match els with
      | [] => N (.sl w0 olds) L
      | _ => False
    | .slt w0 olds => chk (w0 == T.c e) (match els with
      | [] => N (.slt w0 olds) L
      | x :: xs => Nd (fun _ => Scal (x :: xs)) (∃ n, n = olds.length ∧ egrow olds n (x :: xs) (T.b e) fun q es => N (.row L.length w0 0 q) (L ++ [some (.arr w0 es)])))
    | .row p w0 off n => match (L[p]?).join with
      | some (.arr w' olds) => chk (w0 == T.c e && off == 0 && w' == w0) (Nd (fun _ => Scal els) (egrow olds n els (T.b e) fun q es => N (.row L.length w0 0 q) (L.set p none ++ [some (.arr w0 es)])))
      | _ => False
    | _ => False)
  | _ => False
theorem eappend_ok {P : Program} {K : Nat} {L : Store} {t : TypeId} {s x : AV} {N : AV → Store → Prop} (h : eappend (tyOf P) K L t s x N) : aappend P K L t s x N := by
  unfold eappend at h
  unfold aappend
  dsimp only at h
  split at h
  · rename_i e hu
    simp only [hu]
    obtain ⟨h0, h⟩ := chk_iff.1 h
    simp only [Bool.and_eq_true, Nat.ble_eq] at h0
    refine ⟨P.cellsOf e, P.bytesOf e, eelem_ok h0.1, esrc_ok (fun els hh => ?_) h⟩
    split at hh
    · cases els with
      | nil => exact ⟨⟨h0.2, rfl⟩, fun _ => hh, fun h => absurd rfl h⟩
      | cons y ys =>
        obtain ⟨⟨h1⟩, q, es, rfl, rfl, h2, h3, h4, hh⟩ := hh
        exact ⟨⟨h0.2, h1⟩, (fun h => by cases h), fun _ => ⟨by simpa using h3, by simpa using h4, by simpa using hh⟩⟩
    · cases els with
      | nil => exact ⟨⟨h0.2, rfl⟩, rfl, hh⟩
      | cons y ys => exact hh.elim
    · obtain ⟨h2, hh⟩ := chk_iff.1 hh
      simp only [beq_iff_eq] at h2
      subst h2
      cases els with
      | nil => exact ⟨⟨h0.2, rfl⟩, rfl, fun _ => hh, fun h => absurd rfl h⟩
      | cons y ys =>
        obtain ⟨⟨h1⟩, n, rfl, q, es, rfl, rfl, h2, h3, h4, hh⟩ := hh
        exact ⟨⟨h0.2, h1⟩, rfl, (fun h => by cases h), fun _ => ⟨by simpa using h3, by simpa using h4, by simpa using hh⟩⟩
    · split at hh
      · rename_i w' olds ho
        obtain ⟨h2, ⟨h6⟩, q, es, rfl, rfl, h5, h3, h4, hh2⟩ := chk_iff.1 hh
        simp only [Bool.and_eq_true, beq_iff_eq] at h2
        obtain ⟨⟨rfl, rfl⟩, rfl⟩ := h2
        exact ⟨⟨h0.2, h6⟩, ⟨rfl, rfl⟩, olds, by simp [aobj, ho, AO.norm], h5, h3, h4, hh2⟩
      · exact hh.elim
    · exact hh.elim
  · exact h.elim
/-- A round that is still to be reckoned out. -/
structure YW (A : Ar) (T : TyOps) (P : Program) (L : Store) (p : Nat) (fr : AFr) (assign body : Code) (R : AEnd → Store → Prop) : Prop where
  h : ∀ k, T = tyOf P → Tw P (some k) L.length assign (assQ P k L.length p body R) fr L
def eyield (A : Ar) (T : TyOps) (P : Program) (L : Store) (p : Nat) (args : List AV) (R : AEnd → Store → Prop) : Prop :=
  match (L[p]?).join with
  | some (.loop .ready none n l ps assign body) => chk (ps.size == args.length) (YW A T P L p (aputs (ps.toList.zip args) ⟨n, l⟩) assign body R)
  | _ => False
def ecall (A : Ar) (T : TyOps) (P : Program) (K : Nat) (L : Store) (f : AV) (args : List AV) (R : AEnd → Store → Prop) : Prop :=
  match f with
  | .func (.func g) first captured => chk (Nat.ble K L.length) (Ent P g ∧ TC P g (first ++ (args ++ captured)) L R)
  | .yield p => chk (Nat.ble K L.length) (eyield A T P L p args R)
  | _ => False
theorem eyield_ok {A : Ar} {P : Program} {L : Store} {p : Nat} {args : List AV} {R : AEnd → Store → Prop} (h : eyield A (tyOf P) P L p args R) : ayield P L p args R := by
  unfold eyield at h
  unfold ayield
  split at h
  · rename_i n l ps assign body hL
    obtain ⟨h1, h2⟩ := chk_iff.1 h
    simp only [hL]
    exact ⟨by simpa using h1, fun k => h2.h k rfl⟩
  · exact h.elim
def erop (A : Ar) (T : TyOps) (P : Program) (K : Nat) (op : Op) (fr : AFr) (L : Store) (N : AV → Store → Prop) (E : AEx → AFr → Store → Prop) : Prop :=
  match op with
  | .box t x => ebox K L (aval fr x) N
  | .alloc t => ealloc T K L t N
  | .store t ad x => estore T L t (aval fr ad) (aval fr x) N
  | .buildSlice t len parts => ebuildSlice T L t len (parts.toList.map fun p => (p.1, aval fr p.2)) N
  | .call c => match c.callee with
    | .value f => ecall A T P K L (aval fr f) (c.args.toList.map (aval fr)) (callQ N E fr)
    | .builtin .append => match c.args.toList, c.argTypes.toList with
      | [s, x], [t, t'] => chk (t == t') (eappend T K L t (aval fr s) (aval fr x) N)
      | _, _ => False
    | _ => epop A T L op fr fun av => N av L
  | _ => epop A T L op fr fun av => N av L
theorem erop_ok {A : Ar} {P : Program} {K : Nat} {o : Oper} {fr : AFr} {L : Store} {N : AV → Store → Prop} {E : AEx → AFr → Store → Prop} (h : erop A (tyOf P) P K o.op fr L N E) : rop P K o fr L N E := by
  unfold erop at h
  unfold rop
  split at h
  · rename_i t x ho; simp only [ho]; exact ebox_ok h
  · rename_i t ho; simp only [ho]; exact ealloc_ok h
  · rename_i t ad x ho; simp only [ho]; exact estore_ok h
  · rename_i t len parts ho; simp only [ho]; exact ebuildSlice_ok h
  · rename_i c ho
    simp only [ho]
    split at h
    · rename_i f hc
      simp only [hc]
      unfold ecall at h
      split at h
      · rename_i g first captured hf
        obtain ⟨h1, h2, h3⟩ := chk_iff.1 h
        simp only [Nat.ble_eq] at h1
        refine ⟨h1, ?_⟩
        unfold acallv
        simp only [hf]
        exact ⟨h2.h, by have := h3.h; simpa using this⟩
      · rename_i p hf
        obtain ⟨h1, h2⟩ := chk_iff.1 h
        simp only [Nat.ble_eq] at h1
        refine ⟨h1, ?_⟩
        unfold acallv
        simp only [hf]
        exact eyield_ok h2
      · exact h.elim
    · rename_i hc
      simp only [hc]
      split at h
      · rename_i s x t t' hx ht
        obtain ⟨h1, h⟩ := chk_iff.1 h
        simp only [beq_iff_eq] at h1
        simp only [hx, ht]
        exact ⟨h1, eappend_ok h⟩
      · exact h.elim
    · rename_i hn1 hn2
      have : pop P L o (aval fr) fun av => N av L := epop_ok (by rw [ho]; exact (ho ▸ h))
      split
      · rename_i f hc; exact absurd hc (hn1 f)
      · rename_i hc; exact absurd hc hn2
      · exact this
  · rename_i h1 h2 h3 h4 h5
    have : pop P L o (aval fr) fun av => N av L := epop_ok h
    split
    · rename_i ho; exact absurd ho (h1 _ _)
    · rename_i ho; exact absurd ho (h2 _)
    · rename_i ho; exact absurd ho (h3 _ _ _)
    · rename_i ho; exact absurd ho (h4 _ _ _)
    · rename_i ho; exact absurd ho (h5 _)
    · exact this
def FEq (fr fr' : AFr) : Prop := fr.n = fr'.n ∧ ∀ t, aget fr t = aget fr' t
theorem FEq.rep {fr fr' : AFr} (h : FEq fr fr') {w : World} {I : Nat → Prop} {ρ : List Nat} {tmps : Array Value} (hr : RepF w I ρ tmps fr) : RepF w I ρ tmps fr' := ⟨hr.1.trans h.1, fun t => h.2 t ▸ hr.2 t⟩
/-- A condition, known from here on. -/
def know (d : Nat) (v : Bool) (fr : AFr) : AFr := ⟨fr.n, (d, .bool v) :: fr.l⟩
theorem know_eq {d : Nat} {v : Bool} {fr : AFr} (h : aget fr d = .bool v) : FEq fr (know d v fr) := ⟨rfl, fun t => by
  simp only [aget, know, agetL]
  split
  · rename_i e; subst e; exact h
  · rfl⟩
/-- One thing or the other. -/
theorem bsplit {b : Bool} {X Y : Prop} : (b = true → X) → (b = false → Y) → (match b with | true => X | false => Y) := fun h1 h2 => by
  cases b
  · exact h2 rfl
  · exact h1 rfl
def erops (A : Ar) (T : TyOps) (P : Program) (K : Nat) (ops : Array Oper) (Q : AEx → AFr → Store → Prop) : List Oper → AFr → Store → Prop
  | [], fr, L => Q .normal fr L
  | o :: rest, fr, L => match o.guard with
    | none => erop A T P K o.op fr L (fun av L' => erops A T P K ops Q rest (aputf o.dst av fr) L') Q
    | some (j, want) => match (ops[j]?).bind (·.dst) with
      | some d => chk (Nat.blt d fr.n) (match aget fr d with
        | .bool b => match b with
          | true => match want with
            | true => erop A T P K o.op (know d true fr) L (fun av L' => erops A T P K ops Q rest (aputf o.dst av (know d true fr)) L') Q
            | false => erops A T P K ops Q rest (aputf o.dst (.tup []) (know d true fr)) L
          | false => match want with
            | false => erop A T P K o.op (know d false fr) L (fun av L' => erops A T P K ops Q rest (aputf o.dst av (know d false fr)) L') Q
            | true => erops A T P K ops Q rest (aputf o.dst (.tup []) (know d false fr)) L
        | .tup [] => erops A T P K ops Q rest (aputf o.dst (.tup []) fr) L
        | _ => False)
      | none => False
theorem rop_mono {A : Ar} {P : Program} {K : Nat} {o : Oper} {fr : AFr} {L : Store} {N N' : AV → Store → Prop} {E : AEx → AFr → Store → Prop} (hN : ∀ v L, N v L → N' v L) (h : erop A (tyOf P) P K o.op fr L N E) : erop A (tyOf P) P K o.op fr L N E := h
theorem erops_ok {A : Ar} {P : Program} {K : Nat} {ops : Array Oper} {Q : AEx → AFr → Store → Prop} : ∀ (rest : List Oper) (fr : AFr) (L : Store), erops A (tyOf P) P K ops Q rest fr L →
    ∀ (r : Option Nat) (i : Nat) (hi : ∀ j, rest[j]? = ops[i + j]?) (S : Nat) (a0 : Act) (w0 : World) (I0 : Nat → Prop) (ρ0 : List Nat) (L0 : Store) (a : Act) (w : World) (I : Nat → Prop) (ρ : List Nat), Rel w I ρ L → RepF w I ρ a.tmps fr → DefOk S w I a.defers → Ev K w0 I0 ρ0 L0 w I ρ L → a.tmps.size = a0.tmps.size →
      wpOpsIn (Fen r) 0 P ops (Post S K Q a0 w0 I0 ρ0 L0) ((List.range' i rest.length)) a w
  | [], fr, L, h, r, i, hi, S, a0, w0, I0, ρ0, L0, a, w, I, ρ, h1, h2, h3, ev, hs => ⟨.normal, fr, L, I, ρ, trivial, h, h1, h2, h3, ev, hs⟩
  | o :: rest, fr, L, h, r, i, hi, S, a0, w0, I0, ρ0, L0, a, w, I, ρ, h1, h2, h3, ev, hs => by
    have ho : ops[i]? = some o := by have := hi 0; simpa using this.symm
    have hi' : ∀ j, rest[j]? = ops[i + 1 + j]? := fun j => by have := hi (j + 1); rw [show i + 1 + j = i + (j + 1) from by omega]; simpa using this
    have hg : ∃ fr1, FEq fr fr1 ∧ ((Region.wanted o (yielded ops a.tmps) = true ∧ erop A (tyOf P) P K o.op fr1 L (fun av L' => erops A (tyOf P) P K ops Q rest (aputf o.dst av fr1) L') Q) ∨ (Region.wanted o (yielded ops a.tmps) = false ∧ erops A (tyOf P) P K ops Q rest (aputf o.dst (.tup []) fr1) L)) := by
      have key : ∀ {yes no : Prop}, aguard ops o fr yes no → (Region.wanted o (yielded ops a.tmps) = true ∧ yes) ∨ (Region.wanted o (yielded ops a.tmps) = false ∧ no) := fun hg => aguard_ok hg h2
      simp only [erops] at h
      split at h
      · rename_i hg
        exact ⟨fr, ⟨rfl, fun _ => rfl⟩, key (by unfold aguard; simp only [hg]; exact h)⟩
      · rename_i j want hg
        split at h
        · rename_i d hd
          obtain ⟨q1, h⟩ := chk_iff.1 h
          have q1 : d < fr.n := Nat.le_of_ble_eq_true q1
          split at h
          · rename_i b hb
            refine ⟨know d b fr, know_eq hb, key ?_⟩
            unfold aguard
            simp only [hg, hd, hb]
            refine ⟨q1, ?_⟩
            cases want <;> cases b <;> simp at h ⊢ <;> exact h
          · rename_i hb
            refine ⟨fr, ⟨rfl, fun _ => rfl⟩, key ?_⟩
            unfold aguard
            simp only [hg, hd, hb]
            exact ⟨q1, h⟩
          · exact h.elim
        · exact h.elim
    obtain ⟨fr1, hfe, hg⟩ := hg
    have h2 := hfe.rep h2
    rw [List.length_cons, List.range'_succ]
    simp only [wpOpsIn, ho]
    rcases hg with ⟨hw, h⟩ | ⟨hw, h⟩
    · simp only [hw, if_true]
      have hop := rop_ok (r := r) (erop_ok h) S a w I ρ h1 h2 h3 (wpOpsIn (Fen r) 0 P ops (Post S K Q a0 w0 I0 ρ0 L0) (List.range' (i + 1) rest.length)) (fun v av L' w' I' ρ' hN r1 r2 r3 r4 => by
        obtain ⟨hp1, hp2⟩ := put_repF (h2.mono r3) r2 o.dst
        refine erops_ok rest _ L' hN r (i + 1) hi' S a0 w0 I0 ρ0 L0 _ w' I' ρ' r1 hp1 ?_ (ev.trans r4) (hp2.trans hs)
        have : (a.put o.dst v).defers = a.defers := by cases o.dst <;> rfl
        rw [this]
        exact h3.mono r3 r4.size)
      refine ⟨hop.1, ?_⟩
      have hop2 := hop.2
      generalize (o.semAt (Fen r).round a.eval).run P w = res at hop2 ⊢
      cases res with
      | ok x w' =>
        cases x <;> simp only [Oper.uponIn] at hop2 ⊢ <;> first
          | exact hop2
          | exact ⟨hop2.1, hop2.2.mono fun e w'' he => by cases e <;> first | exact he | exact Post.behind ev hs he | exact he.elim (fun a1 h => h.elim fun w1 h => ⟨a1, w1, Post.behind ev hs h⟩)⟩
      | halt x w' => cases x <;> simp only [Oper.uponIn] at hop2 ⊢ <;> first | exact Post.behind ev hs hop2 | exact hop2
    · simp only [hw, Bool.false_eq_true, if_false]
      refine ⟨fun f _ => fen_fn r f, ?_⟩
      obtain ⟨hp1, hp2⟩ := put_repF h2 (undef_rep w I ρ) o.dst
      refine erops_ok rest _ L h r (i + 1) hi' S a0 w0 I0 ρ0 L0 _ w I ρ h1 hp1 ?_ ev (hp2.trans hs)
      have : (a.put o.dst undef).defers = a.defers := by cases o.dst <;> rfl
      rw [this]
      exact h3
/-- A walk that is still to be reckoned out. -/
structure EW (A : Ar) (T : TyOps) (P : Program) (r : Option Nat) (K : Nat) (c : Code) (Q : AEx → AFr → Store → Prop) (fr : AFr) (L : Store) : Prop where
  h : T = tyOf P → Tw P r K c Q fr L
/-- All code but loops. -/
def ewp (A : Ar) (T : TyOps) (P : Program) (r : Option Nat) (K : Nat) : Code → (AEx → AFr → Store → Prop) → AFr → Store → Prop
  | .skip, Q, fr, L => Q .normal fr L
  | .region id ops false, Q, fr, L => erops A T P K ops Q ops.toList fr L
  | .seq a b, Q, fr, L => ewp A T P r K a (thenQ (fun fr L => EW A T P r K b Q fr L) Q) fr L
  | .cond c x y, Q, fr, L => match aval fr c with
    | .bool b => match b with
      | true => EW A T P r K x Q fr L
      | false => EW A T P r K y Q fr L
    | _ => False
  | .block id c, Q, fr, L => ewp A T P r K c (blockQ id Q) fr L
  | .exit id, Q, fr, L => Q (.exit id) fr L
  | .ret, Q, fr, L => Q .ret fr L
  | c, Q, fr, L => TW P r K c Q fr L
theorem Tw.of_ewp {A : Ar} {P : Program} {r : Option Nat} {K : Nat} : ∀ (c : Code) (Q : AEx → AFr → Store → Prop) (fr : AFr) (L : Store), ewp A (tyOf P) P r K c Q fr L → Tw P r K c Q fr L := by
  intro c
  induction c with
  | skip => exact fun Q fr L h => Tw.skip h
  | region id ops draw =>
    intro Q fr L h
    cases draw with
    | false =>
      intro S a w I ρ h1 h2 h3
      refine wpIn_region ?_
      have := erops_ok ops.toList fr L h r 0 (fun j => by simp) S a w I ρ L a w I ρ h1 h2 h3 (.refl ..) rfl
      simpa [List.range_eq_range'] using this
    | true => exact h.h
  | seq a b iha ihb =>
    intro Q fr L h
    refine Tw.seq (Tw.mono (iha _ fr L h) fun e fr L hq => ?_)
    cases e <;> first | exact hq | exact hq.h rfl
  | cond c x y ihx ihy =>
    intro Q fr L h
    simp only [ewp] at h
    split at h
    · rename_i b hb
      exact Tw.cond hb (fun e => by subst e; exact h.h rfl) (fun e => by subst e; exact h.h rfl)
    · exact h.elim
  | block id c ih => exact fun Q fr L h => Tw.block (ih _ _ _ h)
  | exit id => exact fun Q fr L h => Tw.exit h
  | ret => exact fun Q fr L h => Tw.ret h
  | _ => exact fun Q fr L h => h.h
theorem eload_mono {T : TyOps} {t : TypeId} {cs : List AV} {K K' : AV → Prop} (hK : ∀ v, K v → K' v) (h : eload T t cs K) : eload T t cs K' := by
  unfold eload at h ⊢
  split at h
  · exact chk_iff.2 ⟨(chk_iff.1 h).1, hK _ (chk_iff.1 h).2⟩
  · exact chk_iff.2 ⟨(chk_iff.1 h).1, hK _ (chk_iff.1 h).2⟩
  · split at h
    · exact hK _ h
    · exact h.elim
  · exact h.elim
theorem eref_mono {L : Store} {p w i : Nat} {K K' : AV → Prop} (hK : ∀ v, K v → K' v) (h : eref L p w i K) : eref L p w i K' := by
  unfold eref at h ⊢
  split at h
  · exact chk_iff.2 ⟨(chk_iff.1 h).1, hK _ (chk_iff.1 h).2⟩
  · obtain ⟨h1, e, h2, h3⟩ := chk_iff.1 h
    exact chk_iff.2 ⟨h1, e, h2, hK _ h3⟩
  · exact h.elim
theorem eloadAt_mono {T : TyOps} {L : Store} {t : TypeId} {a : AV} {K K' : AV → Prop} (hK : ∀ v, K v → K' v) (h : eloadAt T L t a K) : eloadAt T L t a K' := by
  unfold eloadAt at h ⊢
  split at h
  · exact eref_mono (fun e h => eload_mono hK h) h
  · exact eload_mono hK h
  · exact h.elim
def eres (T : TyOps) (fr : AFr) (L : Store) : List ResultVar → (List AV → Prop) → Prop
  | [], K => K []
  | .tmp t :: rs, K => eres T fr L rs fun vs => K (aget fr t :: vs)
  | .cell a ty :: rs, K => eloadAt T L ty (aget fr a) fun v => eres T fr L rs fun vs => K (v :: vs)
theorem eres_ok {P : Program} {fr : AFr} {L : Store} : ∀ {rs : List ResultVar} {K : List AV → Prop}, eres (tyOf P) fr L rs K → ares P fr L rs K
  | [], K, h => h
  | .tmp t :: rs, K, h => eres_ok (rs := rs) h
  | .cell a ty :: rs, K, h => eloadAt_ok (eloadAt_mono (fun v h => eres_ok (rs := rs) h) h)
def ebodyQ (T : TyOps) (rs : List ResultVar) (K : Nat) (R : AEnd → Store → Prop) : AEx → AFr → Store → Prop
  | .normal, fr, L => eres T fr L rs fun vs => ∃ v' L', VSV K (aone vs) L v' L' ∧ R (.ret v') L'
  | .ret, fr, L => eres T fr L rs fun vs => ∃ v' L', VSV K (aone vs) L v' L' ∧ R (.ret v') L'
  | .pan v, fr, L => ∃ v' L', VSV K v L v' L' ∧ R (.pan v') L'
  | _, _, _ => False
/-- A call, from the walk of its body. -/
theorem TC.of_ewp (A : Ar) {P : Program} {f : FuncId} {fn : Func} {c : Code} {args : List AV} {L : Store} {R : AEnd → Store → Prop} (T : TyOps) (hT : T = tyOf P) (hf : P.funcs[f]? = some fn) (hb : fn.body = some c) (n : Nat) (hnt : fn.ntmps = n) (hn : args.length ≤ n)
    (h : ewp A T P none L.length c (ebodyQ T fn.results.toList L.length R) (frame0 n args) L) : TC P f args L R := by
  subst hT hnt
  refine ⟨TCall.of_tw hf hb hn ((Tw.of_ewp _ _ _ _ h).mono fun e fr L hq => ?_)⟩
  cases e <;> first | exact hq.elim | exact eres_ok hq | exact hq
theorem EW.of {A : Ar} {T : TyOps} {P : Program} {r : Option Nat} {K : Nat} {c : Code} {Q : AEx → AFr → Store → Prop} {fr : AFr} {L : Store} (h : ewp A T P r K c Q fr L) : EW A T P r K c Q fr L :=
  ⟨fun e => by subst e; exact Tw.of_ewp _ _ _ _ h⟩
def yassQ (A : Ar) (T : TyOps) (P : Program) (k K p : Nat) (body : Code) (R : AEnd → Store → Prop) : AEx → AFr → Store → Prop := fun e fr L =>
  match e with
  | .normal => match (L[p]?).join with
    | some (.loop .ready pend n l ps as bd) => EW A T P (some k) K body (roundQ p R) fr (L.set p (some (.loop .busy pend n l ps as bd)))
    | _ => False
  | _ => False
theorem YW.of {A : Ar} {T : TyOps} {P : Program} {L : Store} {p : Nat} {fr : AFr} {assign body : Code} {R : AEnd → Store → Prop} (h : ∀ k, ewp A T P (some k) L.length assign (yassQ A T P k L.length p body R) fr L) : YW A T P L p fr assign body R :=
  ⟨fun k e => by
    subst e
    refine (Tw.of_ewp _ _ _ _ (h k)).mono fun e fr L hq => ?_
    cases e <;> try exact hq
    simp only [yassQ] at hq
    simp only [assQ]
    split at hq
    · rename_i hL
      simp only [hL]
      exact hq.h rfl
    · exact hq.elim⟩
theorem TW.of_ewp (A : Ar) {P : Program} {r : Option Nat} {K : Nat} {c : Code} {Q : AEx → AFr → Store → Prop} {fr : AFr} {L : Store} (T : TyOps) (hT : T = tyOf P) (h : ewp A T P r K c Q fr L) : TW P r K c Q fr L := by
  subst hT
  exact ⟨Tw.of_ewp _ _ _ _ h⟩
theorem TW.loop {P : Program} {r : Option Nat} {K : Nat} {c : Code} {Q : AEx → AFr → Store → Prop} {fr : AFr} {L : Store} (J : Nat → AFr → Store → Prop) {n0 : Nat} {fr0 : AFr} {L0 : Store} (hv : VS K fr L fr0 L0) (h0 : J n0 fr0 L0)
    (round : ∀ n fr L, J n fr L → TW P r K c (thenQ (fun fr' L' => ∃ m fr'' L'', m < n ∧ VS K fr' L' fr'' L'' ∧ J m fr'' L'') Q) fr L) : TW P r K (.loop c) Q fr L :=
  ⟨Tw.loop J hv h0 fun n fr L h => (round n fr L h).h⟩
end Go.Proofs.Ytpjibokaeefhiaa.Tw
