import Derived.Test.YtaieiigfheabfaaTw3
/-! The abstract walk, reckoned out: operations, regions, code. -/
namespace Go.Proofs.Ytaieiigfheabfaa.Tw
open Go.RowKit
set_option linter.unusedVariables false
set_option linter.unusedSimpArgs false
/-- A call, as a thing to be shown. -/
structure TC (P : Program) (f : FuncId) (args : List AV) (L : Store) (R : AEnd → Store → Prop) : Prop where
  h : TCall P f args L R
/-- A function may be entered, as a thing to be shown. -/
structure Ent (P : Program) (f : FuncId) : Prop where
  h : enterB P f = true
/-- A walk, as a thing to be shown. -/
structure TW (P : Program) (r : Option Nat) (K : Nat) (c : Code) (Q : AEx → AFr → Store → Prop) (fr : AFr) (L : Store) : Prop where
  h : Tw P r K c Q fr L
def epop (A : Ar) (T : TyOps) (L : Store) (op : Op) (fr : AFr) (K : AV → Prop) : Prop :=
  match op with
  | .move x => K (aval fr x)
  | .assign x => K (aval fr x)
  | .pick c a b => match aval fr c with
    | .bool t => match t with
      | true => K (aval fr a)
      | false => K (aval fr b)
    | _ => False
  | .load t a => eloadAt T L t (aval fr a) K
  | .nilCheck x => match aval fr x with
    | .ref p w i f => K (.ref p w i f)
    | .imm cs => K (.imm cs)
    | .func (.func f) fs cs => K (.func (.func f) fs cs)
    | .func (.yield f) fs cs => K (.func (.yield f) fs cs)
    | _ => False
  | .binOp op t x y _ => ebin A T t op (aval fr x) (aval fr y) K
  | .unOp op _ x => eun A op (aval fr x) K
  | .convert src dst x => econv A T src dst (aval fr x) K
  | .makeInterface t x => match T.u t with
    | some (.interface _) => False
    | some _ => K (.ifc t (aval fr x))
    | none => False
  | .typeAssert x _ t ok => match aval fr x with
    | .ifc t' v => match T.u t with
      | some (.interface _) => False
      | some _ => chk (Nat.beq t' t) (K (match ok with | true => .tup [v, .bool true] | false => v))
      | none => False
    | _ => False
  | .makeFunc fn first captured => K (.func fn (first.toList.map (aval fr)) (captured.toList.map (aval fr)))
  | .slice t x lo hi mx => eslice T t (aval fr x) (lo.map (aval fr)) (hi.map (aval fr)) (mx.map (aval fr)) K
  | .fieldAddr s x f => efaddr T s (aval fr x) f K
  | .field t x f => efield T t (aval fr x) f K
  | .indexAddr t x ix => eiaddr T t (aval fr x) (aval fr ix) K
  | .index t x ix => eindex A T t (aval fr x) (aval fr ix) K
  | .lookup t x k ok => alookup T.u (ezero T) L t (aval fr x) (aval fr k) ok K
  | .entry x => aentry L (aval fr x) K
  | .extract t ix => match aval fr t with
    | .tup vs => match vs[ix]? with
      | some v => K v
      | none => False
    | _ => False
  | .build t parts => ebuild T t (parts.toList.map fun p => (p.1, aval fr p.2)) K
  | .call c => match c.callee with
    | .builtin .len => match c.args.toList, c.argTypes.toList with
      | [x], [t] => elenL A T L t (aval fr x) K
      | _, _ => False
    | .builtin .min => match c.args.toList with
      | [x, y] => match aval fr x, aval fr y with
        | .int k a, .int _ b => K (.int k (A.mn a b))
        | _, _ => False
      | _ => False
    | .builtin .max => match c.args.toList with
      | [x, y] => match aval fr x, aval fr y with
        | .int k a, .int _ b => K (.int k (A.mx a b))
        | _, _ => False
      | _ => False
    | _ => False
  | _ => False
theorem epop_ok {A : Ar} {P : Program} {L : Store} {o : Oper} {fr : AFr} {K : AV → Prop} (h : epop A (tyOf P) L o.op fr K) : pop P L o (aval fr) K := by
  obtain ⟨dst, op, type, pos, after, guard⟩ := o
  unfold epop at h
  unfold pop
  dsimp only at h ⊢
  cases op <;> dsimp only at h ⊢ <;> first | exact h.elim | exact h | exact Or.inl h | exact eloadAt_ok h | exact ebin_ok h | exact eun_ok h | exact econv_ok h | exact eslice_ok h | exact efaddr_ok h | exact efield_ok h | exact eiaddr_ok h | exact eindex_ok h | exact ebuild_ok h | skip
  case pick c x y =>
    split at h
    · rename_i t hc
      simp only [hc]
      cases t
      · exact h
      · exact h
    · exact h.elim
  case typeAssert x xt t ok =>
    split at h
    · rename_i t' v hx
      simp only [hx]
      split at h
      · exact h.elim
      · rename_i d hn hd
        have hd' : P.underlying t = some d := hd
        obtain ⟨h1, h⟩ := chk_iff.1 h
        split
        · rename_i f hf; rw [hf] at hd'; cases hd'; exact absurd rfl (hn _)
        · exact ⟨Nat.eq_of_beq_eq_true h1, h⟩
        · rename_i hf; rw [hf] at hd'; cases hd'
      · exact h.elim
    · exact h.elim
  case extract t ix =>
    split at h
    · rename_i vs hv
      simp only [hv]
      split at h
      · rename_i v hx; exact ⟨v, hx, h⟩
      · exact h.elim
    · exact h.elim
  case call c =>
    obtain ⟨callee, args, ats⟩ := c
    cases callee <;> first | exact h.elim | skip
    rename_i b
    cases b <;> first | exact h.elim | skip
    case min =>
      change (match args.toList with | [x, y] => (match aval fr x, aval fr y with | .int k a, .int _ b => K (.int k (A.mn a b)) | _, _ => False) | _ => False) at h
      change (match args.toList with | [x, y] => (match aval fr x, aval fr y with | .int k a, .int _ b => K (.int k (if b < a then b else a)) | _, _ => False) | _ => False)
      split at h
      · split at h
        · rw [A.ok_mn] at h; simp_all
        · exact h.elim
      · exact h.elim
    case max =>
      change (match args.toList with | [x, y] => (match aval fr x, aval fr y with | .int k a, .int _ b => K (.int k (A.mx a b)) | _, _ => False) | _ => False) at h
      change (match args.toList with | [x, y] => (match aval fr x, aval fr y with | .int k a, .int _ b => K (.int k (if b > a then b else a)) | _, _ => False) | _ => False)
      split at h
      · split at h
        · rw [A.ok_mx] at h; simp_all
        · exact h.elim
      · exact h.elim
    change (match args.toList, ats.toList with | [x], [t] => elenL A (tyOf P) L t (aval fr x) K | _, _ => False) at h
    change (match args.toList, ats.toList with | [x], [t] => alenL P L t (aval fr x) K | _, _ => False)
    split at h
    · exact elenL_ok h
    · exact h.elim
def ebox (K : Nat) (L : Store) (v : AV) (N : AV → Store → Prop) : Prop :=
  chk (v.known && Nat.ble K L.length) (N (.ref L.length v.cells.length 0 0) (L ++ [some (.box v.cells.length v)]))
theorem ebox_ok {K : Nat} {L : Store} {v : AV} {N : AV → Store → Prop} (h : ebox K L v N) : abox K L v N := by
  obtain ⟨h1, h⟩ := chk_iff.1 h
  simp only [Bool.and_eq_true, Nat.ble_eq] at h1
  exact ⟨h1.1, h1.2, h⟩
def ealloc (T : TyOps) (K : Nat) (L : Store) (t : TypeId) (N : AV → Store → Prop) : Prop :=
  match ezero T t with
  | some z => ebox K L z N
  | none => False
theorem ealloc_ok {P : Program} {K : Nat} {L : Store} {t : TypeId} {N : AV → Store → Prop} (h : ealloc (tyOf P) K L t N) : aalloc P K L t N := by
  unfold ealloc at h
  unfold aalloc
  split at h
  · rename_i z hz
    have hz' : azero P t = some z := hz
    simp only [hz']
    exact ebox_ok h
  · exact h.elim
/-- A great array in a box: one of its cells, or all of it, is written. -/
def ebig (T : TyOps) (L : Store) (t : TypeId) (p wd i f : Nat) (es : List AV) (x : AV) (N : AV → Store → Prop) : Prop :=
  match x with
  | .bool b => chk (i == 0 && T.i t && T.c t == 1) (∃ es', es' = es.set f (.bool b) ∧ f + 1 ≤ wd ∧ es'.all (·.scalar) = true ∧ N .any (L.set p (some (.box wd (.agg es')))))
  | .agg xs => chk (i == 0 && f == 0 && T.i t && T.c t == wd) (xs.length = wd ∧ es.length = wd ∧ xs.all (·.scalar) = true ∧ N .any (L.set p (some (.box wd (.agg xs)))))
  | _ => False
theorem aput_all : ∀ (xs cells : List AV) (o : Nat), o + xs.length = cells.length → aput cells o xs = cells.take o ++ xs
  | [], cells, o, h => by rw [aput, List.take_of_length_le (by simp at h; omega), List.append_nil]
  | x :: xs, cells, o, h => by
    rw [List.length_cons] at h
    rw [aput, aput_all xs (cells.set o x) (o + 1) (by rw [List.length_set]; omega)]
    have hlt : o < cells.length := by omega
    rw [List.take_add_one, List.getElem?_set_self hlt, List.take_set_of_le (Nat.le_refl o)]
    simp
def estore (T : TyOps) (L : Store) (t : TypeId) (a x : AV) (N : AV → Store → Prop) : Prop :=
  match a with
  | .ref p wd i f => match (L[p]?).join with
    | some (.box w' e) => match Nat.ble 100 wd with
      | true => match e with
        | .agg es => chk (w' == wd) (ebig T L t p wd i f es x N)
        | _ => False
      | false => chk (w' == wd && i == 0 && T.i t && x.known && x.cells.length == T.c t && Nat.ble (f + x.cells.length) wd && x.cells.all (·.scalar) && (aput e.cells f x.cells).all (·.scalar))
        (N .any (L.set p (some (.box wd (reCell e (aput e.cells f x.cells))))))
    | some (.arr w' els) => chk (w' == wd && T.i t && x.known && x.cells.length == T.c t && Nat.ble (f + x.cells.length) wd && x.cells.all (·.scalar))
        (∃ e es, els[i]? = some e ∧ es = els.set i (reCell e (aput e.cells f x.cells)) ∧ (aput e.cells f x.cells).all (·.scalar) = true ∧ N .any (L.set p (some (.arr wd es))))
    | _ => False
  | _ => False
theorem estore_ok {P : Program} {L : Store} {t : TypeId} {a x : AV} {N : AV → Store → Prop} (h : estore (tyOf P) L t a x N) : astore P L t a x N := by
  unfold estore at h
  unfold astore
  split at h
  · rename_i p wd i f
    split at h
    · rename_i w' e ho
      split at h
      · split at h
        · rename_i es
          obtain ⟨q1, h⟩ := chk_iff.1 h
          have q1 := eq_of_beq q1
          subst q1
          have hB : aobjB L p = true := by simp [aobjB, ho]
          unfold ebig at h
          split at h
          · rename_i b
            obtain ⟨h1, es', rfl, h2, h3, hN⟩ := chk_iff.1 h
            simp only [Bool.and_eq_true, beq_iff_eq] at h1
            obtain ⟨⟨rfl, h4⟩, h5⟩ := h1
            refine ⟨[.agg es], by simp [aobj, ho, AO.norm], .agg es, rfl, ⟨h4, rfl, h5.symm, h2, rfl, h3⟩, ?_⟩
            simp only [hB]
            exact hN
          · rename_i xs hh
            obtain ⟨h1, h2, h3, h4, hN⟩ := chk_iff.1 h
            simp only [Bool.and_eq_true, beq_iff_eq] at h1
            obtain ⟨⟨⟨rfl, rfl⟩, h5⟩, h6⟩ := h1
            have e : aput (AV.agg es).cells 0 (AV.agg xs).cells = xs := by
              show aput es 0 xs = xs
              rw [aput_all xs es 0 (by omega), List.take_zero, List.nil_append]
            refine ⟨[.agg es], by simp [aobj, ho, AO.norm], .agg es, rfl, ⟨h5, rfl, h2.trans h6.symm, by show 0 + xs.length ≤ _; omega, h4, by rw [e]; exact h4⟩, ?_⟩
            simp only [hB]
            rw [e]
            exact hN
          · exact h.elim
        · exact h.elim
      obtain ⟨h1, hN⟩ := chk_iff.1 h
      simp only [Bool.and_eq_true, Nat.ble_eq, beq_iff_eq] at h1
      obtain ⟨⟨⟨⟨⟨⟨⟨q1, q0⟩, q2⟩, q3⟩, q4⟩, q5⟩, q6⟩, q7⟩ := h1
      subst q1 q0
      refine ⟨[e], by simp [aobj, ho, AO.norm], e, rfl, ⟨q2, q3, q4, q5, q6, q7⟩, ?_⟩
      have hB : aobjB L p = true := by simp [aobjB, ho]
      simp only [hB]
      exact hN
    · rename_i w' els ho
      obtain ⟨h1, e, es, he, rfl, q7, hN⟩ := chk_iff.1 h
      simp only [Bool.and_eq_true, Nat.ble_eq, beq_iff_eq] at h1
      obtain ⟨⟨⟨⟨⟨q1, q2⟩, q3⟩, q4⟩, q5⟩, q6⟩ := h1
      subst q1
      refine ⟨els, by simp [aobj, ho, AO.norm], e, he, ⟨q2, q3, q4, q5, q6, q7⟩, ?_⟩
      have hB : aobjB L p = false := by simp [aobjB, ho]
      simp only [hB]
      exact hN
    · exact h.elim
  · exact h.elim
def eelem (T : TyOps) (e : TypeId) : Bool :=
  T.i e && (match T.z e with | some z => z.cells.size == T.c e | none => false)
theorem eelem_ok {P : Program} {e : TypeId} (h : eelem (tyOf P) e = true) : elemB P e (P.cellsOf e) (P.bytesOf e) = true := by
  unfold eelem at h
  unfold elemB
  simp only [Bool.and_eq_true] at h
  simp only [h.1, Bool.true_and, beq_self_eq_true]
  have h2 := h.2
  revert h2
  cases (P.info? e).bind (·.zero) <;> simp
def ebuildSlice (T : TyOps) (L : Store) (t : TypeId) (len : Nat) (parts : List (Nat × AV)) (N : AV → Store → Prop) : Prop :=
  match T.u t with
  | some (.slice e) => chk (eelem T e && Nat.ble (len * T.c e) 16777216 && parts.map (·.1) == List.range len && parts.all (fun p => p.2.known && p.2.cells.length == T.c e)) (N (.slt (T.c e) (parts.map (·.2))) L)
  | _ => False
theorem ebuildSlice_ok {P : Program} {K : Nat} {L : Store} {t : TypeId} {len : Nat} {parts : List (Nat × AV)} {N : AV → Store → Prop} (h : ebuildSlice (tyOf P) L t len parts N) : abuildSlice P K L t len parts N := by
  unfold ebuildSlice at h
  unfold abuildSlice
  dsimp only at h
  split at h
  · rename_i e hu
    simp only [hu]
    obtain ⟨h1, hN⟩ := chk_iff.1 h
    simp only [Bool.and_eq_true, Nat.ble_eq, beq_iff_eq] at h1
    obtain ⟨⟨⟨q1, q2⟩, q3⟩, q4⟩ := h1
    exact ⟨_, _, ⟨eelem_ok q1, q2, q3, by simpa using q4⟩, hN⟩
  · exact h.elim
def esrc (L : Store) (x : AV) (wd : Nat) (K : List AV → Prop) : Prop :=
  match x with
  | .nils => K []
  | .sl w els => chk (w == wd) (K els)
  | .slt w els => chk (w == wd) (K els)
  | .row p w off n => match (L[p]?).join with
    | some (.arr w' els) => chk (w == wd && w' == w) (∃ es, es = (els.drop off).take n ∧ off + n ≤ els.length ∧ K es)
    | _ => False
  | _ => False
theorem esrc_ok {L : Store} {x : AV} {wd : Nat} {K K' : List AV → Prop} (hK : ∀ l, K l → K' l) (h : esrc L x wd K) : asrc L x wd K' := by
  unfold esrc at h
  unfold asrc
  split at h
  · exact hK _ h
  · obtain ⟨h1, h⟩ := chk_iff.1 h; simp at h1; exact ⟨h1, hK _ h⟩
  · obtain ⟨h1, h⟩ := chk_iff.1 h; simp at h1; exact ⟨h1, hK _ h⟩
  · split at h
    · rename_i w' els ho
      obtain ⟨h1, es, rfl, hh, h2⟩ := chk_iff.1 h
      simp only [Bool.and_eq_true, beq_iff_eq] at h1
      obtain ⟨rfl, rfl⟩ := h1
      exact ⟨rfl, els, by simp [aobj, ho, AO.norm], hh, hK _ h2⟩
    · exact h.elim
  · exact h.elim
/-- A row's new length and contents, to be named. -/
def egrow (olds : List AV) (n : Nat) (els : List AV) (by' : Nat) (K : Nat → List AV → Prop) : Prop :=
  ∃ (q : Nat) (es : List AV), q = n + els.length ∧ es = olds.take n ++ els ∧ n ≤ olds.length ∧ q * by' ≤ 140737488355328 ∧ q ≤ 9223372036854775807 ∧ K q es
def escal (els : List AV) : Bool := els.all fun v => v.cells.all (·.scalar)
/-- Plain cells, as a thing to be shown. -/
structure Scal (els : List AV) : Prop where
  h : escal els = true
def eappend (T : TyOps) (K : Nat) (L : Store) (t : TypeId) (s x : AV) (N : AV → Store → Prop) : Prop :=
  match T.u t with
  | some (.slice e) => chk (eelem T e && Nat.ble K L.length) (esrc L x (T.c e) fun els => match s with
    | .nils => match els with
      | [] => N .nils L
      | x :: xs => Nd (fun _ => Scal (x :: xs)) (egrow [] 0 (x :: xs) (T.b e) fun q es => N (.row L.length (T.c e) 0 q) (L ++ [some (.arr (T.c e) es)]))
    | .sl w0 olds => match els with
      | [] => N (.sl w0 olds) L
      | _ => False
    | .slt w0 olds => chk (w0 == T.c e) (match els with
      | [] => N (.slt w0 olds) L
      | x :: xs => Nd (fun _ => Scal (x :: xs)) (∃ n, n = olds.length ∧ egrow olds n (x :: xs) (T.b e) fun q es => N (.row L.length w0 0 q) (L ++ [some (.arr w0 es)])))
    | .row p w0 off n => match (L[p]?).join with
      | some (.arr w' olds) => chk (w0 == T.c e && off == 0 && w' == w0) (Nd (fun _ => Scal els) (egrow olds n els (T.b e) fun q es => N (.row L.length w0 0 q) (L.set p none ++ [some (.arr w0 es)])))
      | _ => False
    | _ => False)
  | _ => False
theorem eappend_ok {P : Program} {K : Nat} {L : Store} {t : TypeId} {s x : AV} {N : AV → Store → Prop} (h : eappend (tyOf P) K L t s x N) : aappend P K L t s x N := by
  unfold eappend at h
  unfold aappend
  dsimp only at h
  split at h
  · rename_i e hu
    simp only [hu]
    obtain ⟨h0, h⟩ := chk_iff.1 h
    simp only [Bool.and_eq_true, Nat.ble_eq] at h0
    refine ⟨P.cellsOf e, P.bytesOf e, eelem_ok h0.1, esrc_ok (fun els hh => ?_) h⟩
    split at hh
    · cases els with
      | nil => exact ⟨⟨h0.2, rfl⟩, fun _ => hh, fun h => absurd rfl h⟩
      | cons y ys =>
        obtain ⟨⟨h1⟩, q, es, rfl, rfl, h2, h3, h4, hh⟩ := hh
        exact ⟨⟨h0.2, h1⟩, (fun h => by cases h), fun _ => ⟨by simpa using h3, by simpa using h4, by simpa using hh⟩⟩
    · cases els with
      | nil => exact ⟨⟨h0.2, rfl⟩, rfl, hh⟩
      | cons y ys => exact hh.elim
    · obtain ⟨h2, hh⟩ := chk_iff.1 hh
      simp only [beq_iff_eq] at h2
      subst h2
      cases els with
      | nil => exact ⟨⟨h0.2, rfl⟩, rfl, fun _ => hh, fun h => absurd rfl h⟩
      | cons y ys =>
        obtain ⟨⟨h1⟩, n, rfl, q, es, rfl, rfl, h2, h3, h4, hh⟩ := hh
        exact ⟨⟨h0.2, h1⟩, rfl, (fun h => by cases h), fun _ => ⟨by simpa using h3, by simpa using h4, by simpa using hh⟩⟩
    · split at hh
      · rename_i w' olds ho
        obtain ⟨h2, ⟨h6⟩, q, es, rfl, rfl, h5, h3, h4, hh2⟩ := chk_iff.1 hh
        simp only [Bool.and_eq_true, beq_iff_eq] at h2
        obtain ⟨⟨rfl, rfl⟩, rfl⟩ := h2
        exact ⟨⟨h0.2, h6⟩, ⟨rfl, rfl⟩, olds, by simp [aobj, ho, AO.norm], h5, h3, h4, hh2⟩
      · exact hh.elim
    · exact hh.elim
  · exact h.elim
/-- A round that is still to be reckoned out. -/
structure YW (A : Ar) (T : TyOps) (P : Program) (L : Store) (p : Nat) (fr : AFr) (assign body : Code) (R : AEnd → Store → Prop) : Prop where
  h : ∀ k, T = tyOf P → Tw P (some k) L.length assign (assQ P k L.length p body R) fr L
def eyield (A : Ar) (T : TyOps) (P : Program) (L : Store) (p : Nat) (args : List AV) (R : AEnd → Store → Prop) : Prop :=
  match (L[p]?).join with
  | some (.loop .ready none n l ps assign body) => chk (ps.size == args.length) (YW A T P L p (aputs (ps.toList.zip args) ⟨n, l⟩) assign body R)
  | _ => False
def ecall (A : Ar) (T : TyOps) (P : Program) (K : Nat) (L : Store) (f : AV) (args : List AV) (R : AEnd → Store → Prop) : Prop :=
  match f with
  | .func (.func g) first captured => chk (Nat.ble K L.length) (Ent P g ∧ TC P g (first ++ (args ++ captured)) L R)
  | .yield p => chk (Nat.ble K L.length) (eyield A T P L p args R)
  | _ => False
theorem eyield_ok {A : Ar} {P : Program} {L : Store} {p : Nat} {args : List AV} {R : AEnd → Store → Prop} (h : eyield A (tyOf P) P L p args R) : ayield P L p args R := by
  unfold eyield at h
  unfold ayield
  split at h
  · rename_i n l ps assign body hL
    obtain ⟨h1, h2⟩ := chk_iff.1 h
    simp only [hL]
    exact ⟨by simpa using h1, fun k => h2.h k rfl⟩
  · exact h.elim
def isB0 : Option Value → Bool
  | some (.int .u8 0) => true
  | _ => false
def emakeB (T : TyOps) (L : Store) (t : TypeId) (l c : AV) (N : AV → Store → Prop) : Prop :=
  match T.u t with
  | some (.slice e) => match l, c with
    | .int _ n, .int _ m => chk (eelem T e && (T.c e == 1) && (T.b e == 1) && isB0 (T.z e)) (Nd (fun _ => n = m ∧ 0 ≤ n ∧ n ≤ 1000000) (N (.slt 1 (List.replicate n.toNat (.int .u8 0))) L))
    | _, _ => False
  | _ => False
theorem emakeB_ok {P : Program} {L : Store} {t : TypeId} {l c : AV} {N : AV → Store → Prop} (h : emakeB (tyOf P) L t l c N) : amakeB P L t l c N := by
  unfold emakeB at h
  split at h
  · rename_i e hu
    split at h
    · rename_i k n k' m
      obtain ⟨h0, ⟨⟨h1, h2, h3⟩, hN⟩⟩ := chk_iff.1 h
      simp only [Bool.and_eq_true, beq_iff_eq] at h0
      obtain ⟨⟨⟨h0, hc⟩, hb⟩, hz⟩ := h0
      have hel := eelem_ok h0
      refine ⟨⟨h1, h2, h3, e, hu, ?_, ?_⟩, hN⟩
      · rw [show P.cellsOf e = 1 from hc, show P.bytesOf e = 1 from hb] at hel
        exact hel
      · have hz2 : isB0 ((P.info? e).bind (·.zero)) = true := hz
        unfold azero
        revert hz2
        generalize (P.info? e).bind (·.zero) = z
        intro hz2
        unfold isB0 at hz2
        split at hz2
        · rfl
        · cases hz2
    · exact h.elim
  · exact h.elim
def isF0 : Option Value → Bool
  | some (.bool false) => true
  | _ => false
def emakeR (T : TyOps) (K : Nat) (L : Store) (t : TypeId) (l c : AV) (N : AV → Store → Prop) : Prop :=
  match T.u t with
  | some (.slice e) => match l, c with
    | .int _ n, .int _ m => chk (eelem T e && (T.c e == 1) && (T.b e == 1) && isF0 (T.z e) && Nat.ble K L.length) (Nd (fun _ => n = m ∧ 0 ≤ n ∧ n ≤ 1000000) (∃ (q : Nat) (els : List AV), q = n.toNat ∧ els = List.replicate q (.bool false) ∧ N (.row L.length 1 0 q) (L ++ [some (.arr 1 els)])))
    | _, _ => False
  | _ => False
theorem emakeR_ok {P : Program} {K : Nat} {L : Store} {t : TypeId} {l c : AV} {N : AV → Store → Prop} (h : emakeR (tyOf P) K L t l c N) : amakeR P K L t l c N := by
  unfold emakeR at h
  split at h
  · rename_i e hu
    split at h
    · rename_i k n k' m
      obtain ⟨h0, ⟨⟨h1, h2, h3⟩, hN⟩⟩ := chk_iff.1 h
      simp only [Bool.and_eq_true, beq_iff_eq, Nat.ble_eq] at h0
      obtain ⟨⟨⟨⟨h0, hc⟩, hb⟩, hz⟩, hK⟩ := h0
      have hel := eelem_ok h0
      refine ⟨⟨h1, h2, h3, hK, e, hu, ?_, ?_⟩, hN⟩
      · rw [show P.cellsOf e = 1 from hc, show P.bytesOf e = 1 from hb] at hel
        exact hel
      · have hz2 : isF0 ((P.info? e).bind (·.zero)) = true := hz
        unfold azero
        revert hz2
        generalize (P.info? e).bind (·.zero) = z
        intro hz2
        unfold isF0 at hz2
        split at hz2
        · rfl
        · cases hz2
    · exact h.elim
  · exact h.elim
def emake (T : TyOps) (K : Nat) (L : Store) (t : TypeId) (l c : AV) (N : AV → Store → Prop) : Prop :=
  match T.u t with
  | some (.slice e) => match isF0 (T.z e) with
    | true => emakeR T K L t l c N
    | false => emakeB T L t l c N
  | _ => False
theorem emake_ok {P : Program} {K : Nat} {L : Store} {t : TypeId} {l c : AV} {N : AV → Store → Prop} (h : emake (tyOf P) K L t l c N) : amakeB P L t l c N ∨ amakeR P K L t l c N := by
  unfold emake at h
  split at h
  · split at h
    · exact .inr (emakeR_ok h)
    · exact .inl (emakeB_ok h)
  · exact h.elim
def eappendS (T : TyOps) (K : Nat) (L : Store) (t u : TypeId) (s x : AV) (N : AV → Store → Prop) : Prop :=
  match T.u t, T.u u with
  | some (.slice e), some .string => match s, x with
    | .row p w0 off n, .str str => match (L[p]?).join with
      | some (.arr w' olds) => chk (eelem T e && (T.c e == 1) && (T.b e == 1) && w0 == 1 && off == 0 && w' == 1 && Nat.ble K L.length) (∃ q es, q = n + str.size ∧ es = olds.take n ++ bytesAV str.data.toList ∧ n ≤ olds.length ∧ q ≤ 140737488355328 ∧ N (.row L.length 1 0 q) (L.set p none ++ [some (.arr 1 es)]))
      | _ => False
    | _, _ => False
  | _, _ => False
theorem eappendS_ok {P : Program} {K : Nat} {L : Store} {t u : TypeId} {s x : AV} {N : AV → Store → Prop} (h : eappendS (tyOf P) K L t u s x N) : aappendS P K L t u s x N := by
  unfold eappendS at h
  split at h
  · rename_i e hu hu2
    split at h
    · rename_i p w0 off n str
      split at h
      · rename_i w' olds ho
        obtain ⟨h0, q, es, rfl, rfl, h1, h2, hN⟩ := chk_iff.1 h
        simp only [Bool.and_eq_true, beq_iff_eq, Nat.ble_eq] at h0
        obtain ⟨⟨⟨⟨⟨⟨h0, hc⟩, hb⟩, rfl⟩, rfl⟩, rfl⟩, hK⟩ := h0
        have hel := eelem_ok h0
        rw [show P.cellsOf e = 1 from hc, show P.bytesOf e = 1 from hb] at hel
        exact ⟨⟨rfl, rfl, hK, hu2, e, hu, hel⟩, olds, by simp [aobj, ho, AO.norm], h1, h2, hN⟩
      · exact h.elim
    · exact h.elim
  · exact h.elim
/-- Are a map's keys structs? -/
def keyStr (T : TyOps) (t : TypeId) : Bool := match T.u t with
  | some (.map k _) => match T.u k with
    | some (.struct _) => true
    | _ => false
  | _ => false
def erop (A : Ar) (T : TyOps) (P : Program) (K : Nat) (op : Op) (fr : AFr) (L : Store) (N : AV → Store → Prop) (E : AEx → AFr → Store → Prop) : Prop :=
  match op with
  | .box t x => ebox K L (aval fr x) N
  | .alloc t => ealloc T K L t N
  | .store t ad x => estore T L t (aval fr ad) (aval fr x) N
  | .buildSlice t len parts => ebuildSlice T L t len (parts.toList.map fun p => (p.1, aval fr p.2)) N
  | .makeMap t r => match r with
    | none => chk (Nat.ble K L.length) (N (.map L.length) (L ++ [some (.mp 0 [])]))
    | some _ => False
  | .makeSlice t l c => emake T K L t (aval fr l) (aval fr c) N
  | .mapUpdate t m k x => match keyStr T t with
    | true => amapUpdateS P T.u L t (aval fr m) (aval fr k) (aval fr x) N
    | false => amapUpdate T.u L t (aval fr m) (aval fr k) (aval fr x) N
  | .range t x => chk (Nat.ble K L.length) (arange T.u 0 L t (aval fr x) N)
  | .next x s => match s with
    | false => anext L (aval fr x) N
    | true => False
  | .panic x => match aval fr x with
    | .ifc t v => E (.pan (.ifc t v)) fr L
    | _ => False
  | .binOp b t x y _ => match aval fr x with
    | .sl _ els => match aval fr y with
      | .nils => anil T.u b t els fun v => N v L
      | _ => epop A T L op fr fun av => N av L
    | .raw .nilIface => match y with
      | .const .nilIface => chk (nilT 2 (T.u t)) (match b with
        | .eql => N (.bool true) L
        | .neq => N (.bool false) L
        | _ => False)
      | _ => epop A T L op fr fun av => N av L
    | _ => epop A T L op fr fun av => N av L
  | .call c => match c.callee with
    | .builtin .delete => match c.args.toList, c.argTypes.toList with
      | [m, k], [t, t'] => adelete T.u L t (aval fr m) (aval fr k) N
      | _, _ => False
    | .value f => ecall A T P K L (aval fr f) (c.args.toList.map (aval fr)) (callQ N E fr)
    | .builtin .append => match c.args.toList, c.argTypes.toList with
      | [s, x], [t, t'] => match t == t' with
        | true => eappend T K L t (aval fr s) (aval fr x) N
        | false => eappendS T K L t t' (aval fr s) (aval fr x) N
      | _, _ => False
    | _ => epop A T L op fr fun av => N av L
  | _ => epop A T L op fr fun av => N av L
theorem erop_ok {A : Ar} {P : Program} {K : Nat} {o : Oper} {fr : AFr} {L : Store} {N : AV → Store → Prop} {E : AEx → AFr → Store → Prop} (h : erop A (tyOf P) P K o.op fr L N E) : rop P K o fr L N E := by
  unfold erop at h
  unfold rop
  split at h
  · rename_i t x ho; simp only [ho]; exact ebox_ok h
  · rename_i t ho; simp only [ho]; exact ealloc_ok h
  · rename_i t ad x ho; simp only [ho]; exact estore_ok h
  · rename_i t len parts ho; simp only [ho]; exact ebuildSlice_ok h
  · rename_i t r ho
    simp only [ho]
    cases r with
    | none => exact ⟨by simpa using (chk_iff.1 h).1, (chk_iff.1 h).2⟩
    | some _ => exact h.elim
  · rename_i t l c ho; simp only [ho]; exact emake_ok h
  · rename_i t m k x ho
    simp only [ho]
    split at h
    · exact .inr h
    · exact .inl h
  · rename_i t x ho
    simp only [ho]
    obtain ⟨h1, h2⟩ := chk_iff.1 h
    exact arange_le (by simpa using h1) h2
  · rename_i x s ho
    simp only [ho]
    cases s with
    | false => exact ⟨rfl, h⟩
    | true => exact h.elim
  · rename_i x ho
    simp only [ho]
    split at h
    · rename_i t v hx; simp only [hx]; exact h
    · exact h.elim
  · rename_i b t x y pt ho
    simp only [ho]
    split at h
    · rename_i hx
      simp only [hx]
      split at h
      · rename_i hy; simp only [hy]; exact h
      · rename_i hy
        have : pop P L o (aval fr) fun av => N av L := epop_ok h
        split
        · rename_i hy2; exact absurd hy2 hy
        · exact this
    · rename_i hx
      simp only [hx]
      cases y with
      | const v =>
        cases v with
        | nilIface =>
          refine ⟨(chk_iff.1 h).1, ?_⟩
          have := (chk_iff.1 h).2
          cases b <;> exact this
        | _ => exact epop_ok h
      | _ => exact epop_ok h
    · rename_i hx hx3
      have : pop P L o (aval fr) fun av => N av L := epop_ok h
      split
      · rename_i hx2; exact absurd hx2 (hx _ _)
      · rename_i hx2; exact absurd hx2 hx3
      · exact this
  · rename_i c ho
    simp only [ho]
    split at h
    · rename_i hc
      simp only [hc]
      split at h
      · rename_i m k t t' hx ht
        simp only [hx, ht]
        exact h
      · exact h.elim
    · rename_i f hc
      simp only [hc]
      unfold ecall at h
      split at h
      · rename_i g first captured hf
        obtain ⟨h1, h2, h3⟩ := chk_iff.1 h
        simp only [Nat.ble_eq] at h1
        refine ⟨h1, ?_⟩
        unfold acallv
        simp only [hf]
        exact ⟨h2.h, by have := h3.h; simpa using this⟩
      · rename_i p hf
        obtain ⟨h1, h2⟩ := chk_iff.1 h
        simp only [Nat.ble_eq] at h1
        refine ⟨h1, ?_⟩
        unfold acallv
        simp only [hf]
        exact eyield_ok h2
      · exact h.elim
    · rename_i hc
      simp only [hc]
      split at h
      · rename_i s x t t' hx ht
        simp only [hx, ht]
        split at h
        · rename_i h1; exact .inl ⟨by simpa using h1, eappend_ok h⟩
        · exact .inr (eappendS_ok h)
      · exact h.elim
    · rename_i hn0 hn1 hn2
      have : pop P L o (aval fr) fun av => N av L := epop_ok (by rw [ho]; exact (ho ▸ h))
      split
      · rename_i hc; exact absurd hc hn0
      · rename_i f hc; exact absurd hc (hn1 f)
      · rename_i hc; exact absurd hc hn2
      · exact this
  · rename_i h1 h2 h3 h4 h6 hm h7 h8 h9 hp h10 h5
    have : pop P L o (aval fr) fun av => N av L := epop_ok h
    split
    · rename_i ho; exact absurd ho (h1 _ _)
    · rename_i ho; exact absurd ho (h2 _)
    · rename_i ho; exact absurd ho (h3 _ _ _)
    · rename_i ho; exact absurd ho (h4 _ _ _)
    · rename_i ho; exact absurd ho (h6 _ _)
    · rename_i ho; exact absurd ho (hm _ _ _)
    · rename_i ho; exact absurd ho (h7 _ _ _ _)
    · rename_i ho; exact absurd ho (h8 _ _)
    · rename_i ho; exact absurd ho (h9 _ _)
    · rename_i ho; exact absurd ho (hp _)
    · rename_i ho; exact absurd ho (h10 _ _ _ _ _)
    · rename_i ho; exact absurd ho (h5 _)
    · exact this
def FEq (fr fr' : AFr) : Prop := fr.n = fr'.n ∧ ∀ t, aget fr t = aget fr' t
theorem FEq.rep {fr fr' : AFr} (h : FEq fr fr') {w : World} {I : Nat → Prop} {ρ : List Nat} {tmps : Array Value} (hr : RepF w I ρ tmps fr) : RepF w I ρ tmps fr' := ⟨hr.1.trans h.1, fun t => h.2 t ▸ hr.2 t⟩
/-- A condition, known from here on. -/
def know (d : Nat) (v : Bool) (fr : AFr) : AFr := ⟨fr.n, (d, .bool v) :: fr.l⟩
theorem know_eq {d : Nat} {v : Bool} {fr : AFr} (h : aget fr d = .bool v) : FEq fr (know d v fr) := ⟨rfl, fun t => by
  simp only [aget, know, agetL]
  split
  · rename_i e; subst e; exact h
  · rfl⟩
/-- One thing or the other. -/
theorem bsplit {b : Bool} {X Y : Prop} : (b = true → X) → (b = false → Y) → (match b with | true => X | false => Y) := fun h1 h2 => by
  cases b
  · exact h2 rfl
  · exact h1 rfl
def erops (A : Ar) (T : TyOps) (P : Program) (K : Nat) (ops : Array Oper) (Q : AEx → AFr → Store → Prop) : List Oper → AFr → Store → Prop
  | [], fr, L => Q .normal fr L
  | o :: rest, fr, L => match o.guard with
    | none => erop A T P K o.op fr L (fun av L' => erops A T P K ops Q rest (aputf o.dst av fr) L') Q
    | some (j, want) => match (ops[j]?).bind (·.dst) with
      | some d => chk (Nat.blt d fr.n) (match aget fr d with
        | .bool b => match b with
          | true => match want with
            | true => erop A T P K o.op (know d true fr) L (fun av L' => erops A T P K ops Q rest (aputf o.dst av (know d true fr)) L') Q
            | false => erops A T P K ops Q rest (aputf o.dst (.tup []) (know d true fr)) L
          | false => match want with
            | false => erop A T P K o.op (know d false fr) L (fun av L' => erops A T P K ops Q rest (aputf o.dst av (know d false fr)) L') Q
            | true => erops A T P K ops Q rest (aputf o.dst (.tup []) (know d false fr)) L
        | .tup [] => erops A T P K ops Q rest (aputf o.dst (.tup []) fr) L
        | _ => False)
      | none => False
theorem rop_mono {A : Ar} {P : Program} {K : Nat} {o : Oper} {fr : AFr} {L : Store} {N N' : AV → Store → Prop} {E : AEx → AFr → Store → Prop} (hN : ∀ v L, N v L → N' v L) (h : erop A (tyOf P) P K o.op fr L N E) : erop A (tyOf P) P K o.op fr L N E := h
theorem erops_ok {A : Ar} {P : Program} {K : Nat} {ops : Array Oper} {Q : AEx → AFr → Store → Prop} : ∀ (rest : List Oper) (fr : AFr) (L : Store), erops A (tyOf P) P K ops Q rest fr L →
    ∀ (r : Option Nat) (i : Nat) (hi : ∀ j, rest[j]? = ops[i + j]?) (S : Base) (a0 : Act) (w0 : World) (I0 : Nat → Prop) (ρ0 : List Nat) (L0 : Store) (a : Act) (w : World) (I : Nat → Prop) (ρ : List Nat), Rel w I ρ L → RepF w I ρ a.tmps fr → DefOk S w I a.defers → Ev K w0 I0 ρ0 L0 w I ρ L → a.tmps.size = a0.tmps.size →
      wpOpsIn (Fen r) 0 P ops (Post S K Q a0 w0 I0 ρ0 L0) ((List.range' i rest.length)) a w
  | [], fr, L, h, r, i, hi, S, a0, w0, I0, ρ0, L0, a, w, I, ρ, h1, h2, h3, ev, hs => ⟨.normal, fr, L, I, ρ, trivial, h, h1, h2, h3, ev, hs⟩
  | o :: rest, fr, L, h, r, i, hi, S, a0, w0, I0, ρ0, L0, a, w, I, ρ, h1, h2, h3, ev, hs => by
    have ho : ops[i]? = some o := by have := hi 0; simpa using this.symm
    have hi' : ∀ j, rest[j]? = ops[i + 1 + j]? := fun j => by have := hi (j + 1); rw [show i + 1 + j = i + (j + 1) from by omega]; simpa using this
    have hg : ∃ fr1, FEq fr fr1 ∧ ((Region.wanted o (yielded ops a.tmps) = true ∧ erop A (tyOf P) P K o.op fr1 L (fun av L' => erops A (tyOf P) P K ops Q rest (aputf o.dst av fr1) L') Q) ∨ (Region.wanted o (yielded ops a.tmps) = false ∧ erops A (tyOf P) P K ops Q rest (aputf o.dst (.tup []) fr1) L)) := by
      have key : ∀ {yes no : Prop}, aguard ops o fr yes no → (Region.wanted o (yielded ops a.tmps) = true ∧ yes) ∨ (Region.wanted o (yielded ops a.tmps) = false ∧ no) := fun hg => aguard_ok hg h2
      simp only [erops] at h
      split at h
      · rename_i hg
        exact ⟨fr, ⟨rfl, fun _ => rfl⟩, key (by unfold aguard; simp only [hg]; exact h)⟩
      · rename_i j want hg
        split at h
        · rename_i d hd
          obtain ⟨q1, h⟩ := chk_iff.1 h
          have q1 : d < fr.n := Nat.le_of_ble_eq_true q1
          split at h
          · rename_i b hb
            refine ⟨know d b fr, know_eq hb, key ?_⟩
            unfold aguard
            simp only [hg, hd, hb]
            refine ⟨q1, ?_⟩
            cases want <;> cases b <;> simp at h ⊢ <;> exact h
          · rename_i hb
            refine ⟨fr, ⟨rfl, fun _ => rfl⟩, key ?_⟩
            unfold aguard
            simp only [hg, hd, hb]
            exact ⟨q1, h⟩
          · exact h.elim
        · exact h.elim
    obtain ⟨fr1, hfe, hg⟩ := hg
    have h2 := hfe.rep h2
    rw [List.length_cons, List.range'_succ]
    simp only [wpOpsIn, ho]
    rcases hg with ⟨hw, h⟩ | ⟨hw, h⟩
    · simp only [hw, if_true]
      have hop := rop_ok (r := r) (erop_ok h) S a w I ρ h1 h2 h3 (wpOpsIn (Fen r) 0 P ops (Post S K Q a0 w0 I0 ρ0 L0) (List.range' (i + 1) rest.length)) (fun v av L' w' I' ρ' hN r1 r2 r3 r4 => by
        obtain ⟨hp1, hp2⟩ := put_repF (h2.mono r3) r2 o.dst
        refine erops_ok rest _ L' hN r (i + 1) hi' S a0 w0 I0 ρ0 L0 _ w' I' ρ' r1 hp1 ?_ (ev.trans r4) (hp2.trans hs)
        have : (a.put o.dst v).defers = a.defers := by cases o.dst <;> rfl
        rw [this]
        exact h3.mono r3 r4.size)
      refine ⟨hop.1, ?_⟩
      have hop2 := hop.2
      generalize (o.semAt (Fen r).round a.eval).run P w = res at hop2 ⊢
      cases res with
      | ok x w' =>
        cases x <;> simp only [Oper.uponIn] at hop2 ⊢ <;> first
          | exact hop2
          | exact ⟨hop2.1, hop2.2.mono fun e w'' he => by cases e <;> first | exact he | exact Post.behind ev hs he | exact he.elim (fun a1 h => h.elim fun w1 h => ⟨a1, w1, Post.behind ev hs h⟩)⟩
      | halt x w' => cases x <;> simp only [Oper.uponIn] at hop2 ⊢ <;> first | exact Post.behind ev hs hop2 | exact hop2
    · simp only [hw, Bool.false_eq_true, if_false]
      refine ⟨fun f _ => fen_fn r f, ?_⟩
      obtain ⟨hp1, hp2⟩ := put_repF h2 (undef_rep w I ρ) o.dst
      refine erops_ok rest _ L h r (i + 1) hi' S a0 w0 I0 ρ0 L0 _ w I ρ h1 hp1 ?_ ev (hp2.trans hs)
      have : (a.put o.dst undef).defers = a.defers := by cases o.dst <;> rfl
      rw [this]
      exact h3
/-- A walk that is still to be reckoned out. -/
structure EW (A : Ar) (T : TyOps) (P : Program) (r : Option Nat) (K : Nat) (c : Code) (Q : AEx → AFr → Store → Prop) (fr : AFr) (L : Store) : Prop where
  h : T = tyOf P → Tw P r K c Q fr L
/-- All code but loops. -/
def ewp (A : Ar) (T : TyOps) (P : Program) (r : Option Nat) (K : Nat) : Code → (AEx → AFr → Store → Prop) → AFr → Store → Prop
  | .skip, Q, fr, L => Q .normal fr L
  | .region id ops false, Q, fr, L => erops A T P K ops Q ops.toList fr L
  | .seq a b, Q, fr, L => ewp A T P r K a (thenQ (fun fr L => EW A T P r K b Q fr L) Q) fr L
  | .cond c x y, Q, fr, L => match aval fr c with
    | .bool b => match b with
      | true => EW A T P r K x Q fr L
      | false => EW A T P r K y Q fr L
    | _ => False
  | .block id c, Q, fr, L => ewp A T P r K c (blockQ id Q) fr L
  | .exit id, Q, fr, L => Q (.exit id) fr L
  | .ret, Q, fr, L => Q .ret fr L
  | .scope c, Q, fr, L => ewp A T P r K c (scopeQ Q) fr L
  | .label _, Q, fr, L => Q .normal fr L
  | c, Q, fr, L => TW P r K c Q fr L
theorem Tw.of_ewp {A : Ar} {P : Program} {r : Option Nat} {K : Nat} : ∀ (c : Code) (Q : AEx → AFr → Store → Prop) (fr : AFr) (L : Store), ewp A (tyOf P) P r K c Q fr L → Tw P r K c Q fr L := by
  intro c
  induction c with
  | skip => exact fun Q fr L h => Tw.skip h
  | region id ops draw =>
    intro Q fr L h
    cases draw with
    | false =>
      intro S a w I ρ h1 h2 h3
      refine wpIn_region ?_
      have := erops_ok ops.toList fr L h r 0 (fun j => by simp) S a w I ρ L a w I ρ h1 h2 h3 (.refl ..) rfl
      simpa [List.range_eq_range'] using this
    | true => exact h.h
  | seq a b iha ihb =>
    intro Q fr L h
    refine Tw.seq (Tw.mono (iha _ fr L h) fun e fr L hq => ?_)
    cases e <;> first | exact hq | exact hq.h rfl
  | cond c x y ihx ihy =>
    intro Q fr L h
    simp only [ewp] at h
    split at h
    · rename_i b hb
      exact Tw.cond hb (fun e => by subst e; exact h.h rfl) (fun e => by subst e; exact h.h rfl)
    · exact h.elim
  | block id c ih => exact fun Q fr L h => Tw.block (ih _ _ _ h)
  | exit id => exact fun Q fr L h => Tw.exit h
  | ret => exact fun Q fr L h => Tw.ret h
  | scope c ih => exact fun Q fr L h => Tw.scope (ih _ _ _ h)
  | label l => exact fun Q fr L h => Tw.label h
  | _ => exact fun Q fr L h => h.h
theorem eload_mono {T : TyOps} {t : TypeId} {cs : List AV} {K K' : AV → Prop} (hK : ∀ v, K v → K' v) (h : eload T t cs K) : eload T t cs K' := by
  unfold eload at h ⊢
  split at h
  · exact chk_iff.2 ⟨(chk_iff.1 h).1, hK _ (chk_iff.1 h).2⟩
  · obtain ⟨h1, es, h2, h3, h4⟩ := chk_iff.1 h
    exact chk_iff.2 ⟨h1, es, h2, h3, hK _ h4⟩
  · split at h
    · exact hK _ h
    · exact h.elim
  · exact h.elim
theorem eref_mono {L : Store} {p w i : Nat} {K K' : AV → Prop} (hK : ∀ v, K v → K' v) (h : eref L p w i K) : eref L p w i K' := by
  unfold eref at h ⊢
  split at h
  · exact chk_iff.2 ⟨(chk_iff.1 h).1, hK _ (chk_iff.1 h).2⟩
  · obtain ⟨h1, e, h2, h3⟩ := chk_iff.1 h
    exact chk_iff.2 ⟨h1, e, h2, hK _ h3⟩
  · exact h.elim
theorem eloadAt_mono {T : TyOps} {L : Store} {t : TypeId} {a : AV} {K K' : AV → Prop} (hK : ∀ v, K v → K' v) (h : eloadAt T L t a K) : eloadAt T L t a K' := by
  unfold eloadAt at h ⊢
  split at h
  · exact eref_mono (fun e h => eload_mono hK h) h
  · exact eload_mono hK h
  · exact h.elim
def eres (T : TyOps) (fr : AFr) (L : Store) : List ResultVar → (List AV → Prop) → Prop
  | [], K => K []
  | .tmp t :: rs, K => eres T fr L rs fun vs => K (aget fr t :: vs)
  | .cell a ty :: rs, K => eloadAt T L ty (aget fr a) fun v => eres T fr L rs fun vs => K (v :: vs)
theorem eres_ok {P : Program} {fr : AFr} {L : Store} : ∀ {rs : List ResultVar} {K : List AV → Prop}, eres (tyOf P) fr L rs K → ares P fr L rs K
  | [], K, h => h
  | .tmp t :: rs, K, h => eres_ok (rs := rs) h
  | .cell a ty :: rs, K, h => eloadAt_ok (eloadAt_mono (fun v h => eres_ok (rs := rs) h) h)
def ebodyQ (T : TyOps) (rs : List ResultVar) (K : Nat) (R : AEnd → Store → Prop) : AEx → AFr → Store → Prop
  | .normal, fr, L => eres T fr L rs fun vs => ∃ v' L', VSV K (aone vs) L v' L' ∧ R (.ret v') L'
  | .ret, fr, L => eres T fr L rs fun vs => ∃ v' L', VSV K (aone vs) L v' L' ∧ R (.ret v') L'
  | .pan v, fr, L => ∃ v' L', VSV K v L v' L' ∧ R (.pan v') L'
  | _, _, _ => False
/-- A call, from the walk of its body. -/
theorem TC.of_ewp (A : Ar) {P : Program} {f : FuncId} {fn : Func} {c : Code} {args : List AV} {L : Store} {R : AEnd → Store → Prop} (T : TyOps) (hT : T = tyOf P) (hf : P.funcs[f]? = some fn) (hb : fn.body = some c) (n : Nat) (hnt : fn.ntmps = n) (hn : args.length ≤ n)
    (h : ewp A T P none L.length c (ebodyQ T fn.results.toList L.length R) (frame0 n args) L) : TC P f args L R := by
  subst hT hnt
  refine ⟨TCall.of_tw hf hb hn ((Tw.of_ewp _ _ _ _ h).mono fun e fr L hq => ?_)⟩
  cases e <;> first | exact hq.elim | exact eres_ok hq | exact hq
theorem EW.of {A : Ar} {T : TyOps} {P : Program} {r : Option Nat} {K : Nat} {c : Code} {Q : AEx → AFr → Store → Prop} {fr : AFr} {L : Store} (h : ewp A T P r K c Q fr L) : EW A T P r K c Q fr L :=
  ⟨fun e => by subst e; exact Tw.of_ewp _ _ _ _ h⟩
def yassQ (A : Ar) (T : TyOps) (P : Program) (k K p : Nat) (body : Code) (R : AEnd → Store → Prop) : AEx → AFr → Store → Prop := fun e fr L =>
  match e with
  | .normal => match (L[p]?).join with
    | some (.loop .ready pend n l ps as bd) => EW A T P (some k) K body (roundQ p R) fr (L.set p (some (.loop .busy pend n l ps as bd)))
    | _ => False
  | _ => False
theorem YW.of {A : Ar} {T : TyOps} {P : Program} {L : Store} {p : Nat} {fr : AFr} {assign body : Code} {R : AEnd → Store → Prop} (h : ∀ k, ewp A T P (some k) L.length assign (yassQ A T P k L.length p body R) fr L) : YW A T P L p fr assign body R :=
  ⟨fun k e => by
    subst e
    refine (Tw.of_ewp _ _ _ _ (h k)).mono fun e fr L hq => ?_
    cases e <;> try exact hq
    simp only [yassQ] at hq
    simp only [assQ]
    split at hq
    · rename_i hL
      simp only [hL]
      exact hq.h rfl
    · exact hq.elim⟩
theorem TW.of_ewp (A : Ar) {P : Program} {r : Option Nat} {K : Nat} {c : Code} {Q : AEx → AFr → Store → Prop} {fr : AFr} {L : Store} (T : TyOps) (hT : T = tyOf P) (h : ewp A T P r K c Q fr L) : TW P r K c Q fr L := by
  subst hT
  exact ⟨Tw.of_ewp _ _ _ _ h⟩
theorem TW.loop {P : Program} {r : Option Nat} {K : Nat} {c : Code} {Q : AEx → AFr → Store → Prop} {fr : AFr} {L : Store} (J : Nat → AFr → Store → Prop) {n0 : Nat} {fr0 : AFr} {L0 : Store} (hv : VS K fr L fr0 L0) (h0 : J n0 fr0 L0)
    (round : ∀ n fr L, J n fr L → TW P r K c (thenQ (fun fr' L' => ∃ m fr'' L'', m < n ∧ VS K fr' L' fr'' L'' ∧ J m fr'' L'') Q) fr L) : TW P r K (.loop c) Q fr L :=
  ⟨Tw.loop J hv h0 fun n fr L h => (round n fr L h).h⟩
end Go.Proofs.Ytaieiigfheabfaa.Tw

/-! A call that knows a part of the objects alone. -/
namespace Go.Proofs.Ytaieiigfheabfaa.Tw
open Go.RowKit
set_option linter.unusedVariables false
set_option linter.unusedSimpArgs false
mutual
/-- Places of a callee's, as the caller's. -/
def AV.ren (π : List Nat) : AV → AV
  | .ref p w i f => .ref (π.getD p 0) w i f
  | .row p w off n => .row (π.getD p 0) w off n
  | .map p => .map (π.getD p 0)
  | .yield p => .yield (π.getD p 0)
  | .imm cs => .imm (renL π cs)
  | .sl w es => .sl w (renL π es)
  | .slt w es => .slt w (renL π es)
  | .agg cs => .agg (renL π cs)
  | .tup cs => .tup (renL π cs)
  | .func fn a b => .func fn (renL π a) (renL π b)
  | .ifc t v => .ifc t (v.ren π)
  | .any => .any
  | .int k n => .int k n
  | .bool b => .bool b
  | .str s => .str s
  | .nil => .nil
  | .nils => .nils
  | .nilf => .nilf
  | .raw v => .raw v
def renL (π : List Nat) : List AV → List AV
  | [] => []
  | a :: as => a.ren π :: renL π as
end
theorem renL_map (π : List Nat) : ∀ l : List AV, renL π l = l.map (·.ren π)
  | [] => rfl
  | a :: l => by rw [renL, renL_map π l]; rfl
mutual
theorem AV.ren_pur (π : List Nat) : ∀ a : AV, a.pur = true → a.ren π = a
  | .ref .., h => by simp [AV.pur] at h
  | .row .., h => by simp [AV.pur] at h
  | .map _, h => by simp [AV.pur] at h
  | .yield _, h => by simp [AV.pur] at h
  | .imm cs, h => by simp only [AV.pur] at h; simp only [AV.ren, renL_pur π cs h]
  | .sl _ cs, h => by simp only [AV.pur] at h; simp only [AV.ren, renL_pur π cs h]
  | .slt _ cs, h => by simp only [AV.pur] at h; simp only [AV.ren, renL_pur π cs h]
  | .agg cs, h => by simp only [AV.pur] at h; simp only [AV.ren, renL_pur π cs h]
  | .tup cs, h => by simp only [AV.pur] at h; simp only [AV.ren, renL_pur π cs h]
  | .func _ a b, h => by
    simp only [AV.pur, Bool.and_eq_true] at h
    simp only [AV.ren, renL_pur π a h.1, renL_pur π b h.2]
  | .ifc _ v, h => by simp only [AV.pur] at h; simp only [AV.ren, AV.ren_pur π v h]
  | .any, _ => rfl
  | .int _ _, _ => rfl
  | .bool _, _ => rfl
  | .str _, _ => rfl
  | .nil, _ => rfl
  | .nils, _ => rfl
  | .nilf, _ => rfl
  | .raw _, _ => rfl
theorem renL_pur (π : List Nat) : ∀ l : List AV, purL l = true → renL π l = l
  | [], _ => rfl
  | a :: l, h => by
    simp only [purL, Bool.and_eq_true] at h
    rw [renL, AV.ren_pur π a h.1, renL_pur π l h.2]
end
theorem ren_cells (π : List Nat) (e : AV) : (e.ren π).cells = e.cells.map (·.ren π) := by
  cases e <;> simp [AV.ren, AV.cells, renL_map]
/-- What lies where, of a part of the objects. -/
def SubRho (π : List Nat) (ρs ρ : List Nat) : Prop := ∀ (i b : Nat), ρs[i]? = some b → ∃ p, π[i]? = some p ∧ ρ[p]? = some b
theorem Rep.ren {w : World} {I : Nat → Prop} {ρs ρ : List Nat} {π : List Nat} (hs : SubRho π ρs ρ) {v : Value} {a : AV} (h : Rep w I ρs v a) : Rep w I ρ v (a.ren π) := by
  induction h with
  | any v => exact .any v
  | int k n => exact .int k n
  | bool b => exact .bool b
  | str s => exact .str s
  | nil => exact .nil
  | ref p wd i f b h =>
    obtain ⟨q, h1, h2⟩ := hs p b h
    simp only [AV.ren, List.getD_eq_getElem?_getD, h1, Option.getD_some]
    exact .ref q wd i f b h2
  | imm a cs vs hsp hI hc hr ih =>
    simp only [AV.ren, renL_map]
    refine .imm a _ vs hsp hI (fun j hj => hc j (by simpa using hj)) (fun j c hj => ?_)
    rw [List.getElem?_map] at hj
    cases hx : cs[j]? with
    | none => rw [hx] at hj; cases hj
    | some x => rw [hx] at hj; cases hj; exact ih j x hx
  | nils => exact .nils
  | sl a A n c wd els vs hn hcap ha hw hc hr ih =>
    simp only [AV.ren, renL_map]
    refine .sl a A n c wd _ vs (by simpa using hn) hcap (ha.imp (fun h => by rw [h]; rfl) id) (fun e he => ?_) (fun i j hi hj => hc i j (by simpa using hi) hj) (fun i e j c he hc' => ?_)
    · obtain ⟨x, hx, rfl⟩ := List.mem_map.1 he
      rw [ren_cells, List.length_map]; exact hw x hx
    · rw [List.getElem?_map] at he
      cases hx : els[i]? with
      | none => rw [hx] at he; cases he
      | some x =>
        rw [hx] at he; cases he
        rw [ren_cells, List.getElem?_map] at hc'
        cases hy : x.cells[j]? with
        | none => rw [hy] at hc'; cases hc'
        | some y => rw [hy] at hc'; cases hc'; exact ih i x j y hx hy
  | slt a A n wd els vs hn ha hw hc hr ih =>
    simp only [AV.ren, renL_map]
    refine .slt a A n wd _ vs (by simpa using hn) (ha.imp (fun h => by rw [h]; rfl) id) (fun e he => ?_) (fun i j hi hj => hc i j (by simpa using hi) hj) (fun i e j c he hc' => ?_)
    · obtain ⟨x, hx, rfl⟩ := List.mem_map.1 he
      rw [ren_cells, List.length_map]; exact hw x hx
    · rw [List.getElem?_map] at he
      cases hx : els[i]? with
      | none => rw [hx] at he; cases he
      | some x =>
        rw [hx] at he; cases he
        rw [ren_cells, List.getElem?_map] at hc'
        cases hy : x.cells[j]? with
        | none => rw [hy] at hc'; cases hc'
        | some y => rw [hy] at hc'; cases hc'; exact ih i x j y hx hy
  | row p wd off n b c C t h hn hb hC =>
    obtain ⟨q, h1, h2⟩ := hs p b h
    simp only [AV.ren, List.getD_eq_getElem?_getD, h1, Option.getD_some]
    exact .row q wd off n b c C t h2 hn hb hC
  | agg vs cs hl hr ih =>
    simp only [AV.ren, renL_map]
    refine .agg vs _ (by simpa using hl) (fun j v c hv hc => ?_)
    rw [List.getElem?_map] at hc
    cases hx : cs[j]? with
    | none => rw [hx] at hc; cases hc
    | some x => rw [hx] at hc; cases hc; exact ih j v x hv hx
  | tup vs cs hl hr ih =>
    simp only [AV.ren, renL_map]
    refine .tup vs _ (by simpa using hl) (fun j v c hv hc => ?_)
    rw [List.getElem?_map] at hc
    cases hx : cs[j]? with
    | none => rw [hx] at hc; cases hc
    | some x => rw [hx] at hc; cases hc; exact ih j v x hv hx
  | func fn fs gs fst cap hl hl' hr hr' ih ih' =>
    simp only [AV.ren, renL_map]
    refine .func fn fs gs _ _ (by simpa using hl) (by simpa using hl') (fun j v c hv hc => ?_) (fun j v c hv hc => ?_)
    · rw [List.getElem?_map] at hc
      cases hx : fst[j]? with
      | none => rw [hx] at hc; cases hc
      | some x => rw [hx] at hc; cases hc; exact ih j v x hv hx
    · rw [List.getElem?_map] at hc
      cases hx : cap[j]? with
      | none => rw [hx] at hc; cases hc
      | some x => rw [hx] at hc; cases hc; exact ih' j v x hv hx
  | nilf => exact .nilf
  | map p b h =>
    obtain ⟨q, h1, h2⟩ := hs p b h
    simp only [AV.ren, List.getD_eq_getElem?_getD, h1, Option.getD_some]
    exact .map q b h2
  | yield p b h =>
    obtain ⟨q, h1, h2⟩ := hs p b h
    simp only [AV.ren, List.getD_eq_getElem?_getD, h1, Option.getD_some]
    exact .yield q b h2
  | ifc t v a h ih => exact .ifc t v _ ih
  | raw v => exact .raw v
/-- What the callee knows of a value of the caller's. -/
inductive Rn (π : List Nat) : AV → AV → Prop
  | pure {a : AV} (h : a.pur = true) : Rn π a a
  | any (a : AV) : Rn π .any a
  | ref {p q : Nat} (w i f : Nat) (h : π[p]? = some q) : Rn π (.ref p w i f) (.ref q w i f)
  | row {p q : Nat} (w off n : Nat) (h : π[p]? = some q) : Rn π (.row p w off n) (.row q w off n)
  | map {p q : Nat} (h : π[p]? = some q) : Rn π (.map p) (.map q)
  | agg (cs ds : List AV) (hl : cs.length = ds.length) (h : ∀ (j : Nat) (c d : AV), cs[j]? = some c → ds[j]? = some d → Rn π c d) : Rn π (.agg cs) (.agg ds)
  | func (fn : Fn) (cs ds as bs : List AV) (hl : cs.length = ds.length) (h : ∀ (j : Nat) (c d : AV), cs[j]? = some c → ds[j]? = some d → Rn π c d) (hl' : as.length = bs.length) (h' : ∀ (j : Nat) (c d : AV), as[j]? = some c → bs[j]? = some d → Rn π c d) : Rn π (.func fn cs as) (.func fn ds bs)
theorem Rn.rep {w : World} {I : Nat → Prop} {ρ : List Nat} {π : List Nat} {ρs : List Nat} (hs : ∀ (i p : Nat), π[i]? = some p → ∃ b, ρs[i]? = some b ∧ ρ[p]? = some b) {a c : AV} (h : Rn π a c) : ∀ {v : Value}, Rep w I ρ v c → Rep w I ρs v a := by
  induction h with
  | pure h => exact fun hv => hv.pure _ h
  | any a => exact fun _ => .any _
  | ref wd i f h =>
    intro v hv
    obtain ⟨b, h1, h2⟩ := hs _ _ h
    cases hv with
    | ref _ _ _ _ b' hb => rw [h2] at hb; cases hb; exact .ref _ _ _ _ _ h1
  | row wd off n h =>
    intro v hv
    obtain ⟨b, h1, h2⟩ := hs _ _ h
    cases hv with
    | row _ _ _ _ b' c C t hb hn hB hC => rw [h2] at hb; cases hb; exact .row _ _ _ _ _ c C t h1 hn hB hC
  | map h =>
    intro v hv
    obtain ⟨b, h1, h2⟩ := hs _ _ h
    cases hv with
    | map _ b' hb => rw [h2] at hb; cases hb; exact .map _ _ h1
  | agg cs ds hl h ih =>
    intro v hv
    cases hv with
    | agg vs _ hl' hr =>
      refine .agg vs cs (hl'.trans hl.symm) fun j u d hu hd => ?_
      have hlt := (List.getElem?_eq_some_iff.1 hd).1
      have hc : ds[j]? = some (ds[j]'(by omega)) := List.getElem?_eq_getElem (by omega)
      exact ih j d _ hd hc (hr j u _ hu hc)
  | func fn cs ds as bs hl h hl' h' ih ih' =>
    intro v hv
    cases hv with
    | func _ fs gs _ _ q1 q2 q3 q4 =>
      refine .func fn fs gs cs as (q1.trans hl.symm) (q2.trans hl'.symm) (fun j u d hu hd => ?_) (fun j u d hu hd => ?_)
      · have hlt := (List.getElem?_eq_some_iff.1 hd).1
        have hc : ds[j]? = some (ds[j]'(by omega)) := List.getElem?_eq_getElem (by omega)
        exact ih j d _ hd hc (q3 j u _ hu hc)
      · have hlt := (List.getElem?_eq_some_iff.1 hd).1
        have hc : bs[j]? = some (bs[j]'(by omega)) := List.getElem?_eq_getElem (by omega)
        exact ih' j d _ hd hc (q4 j u _ hu hc)
/-- .. of an object. -/
inductive RnO (π : List Nat) : AO → AO → Prop
  | arr (w : Nat) (es fs : List AV) (hl : es.length = fs.length) (h : ∀ (i : Nat) (e f : AV), es[i]? = some e → fs[i]? = some f → e.cells.length = f.cells.length ∧ ∀ (j : Nat) (c d : AV), e.cells[j]? = some c → f.cells[j]? = some d → Rn π c d) : RnO π (.arr w es) (.arr w fs)
  | box (w : Nat) (e f : AV) (hl : e.cells.length = f.cells.length) (h : ∀ (j : Nat) (c d : AV), e.cells[j]? = some c → f.cells[j]? = some d → Rn π c d) : RnO π (.box w e) (.box w f)
theorem RnO.rep {w : World} {I : Nat → Prop} {ρ : List Nat} {π : List Nat} {ρs : List Nat} (hs : ∀ (i p : Nat), π[i]? = some p → ∃ b, ρs[i]? = some b ∧ ρ[p]? = some b) {a c : AO} (h : RnO π a c) {b : Nat} (ho : ObjRel w I ρ b c) : ObjRel w I ρs b a := by
  cases h with
  | arr wd es fs hl h =>
    obtain ⟨C, t, h1, h2, h3⟩ := ho
    refine ⟨C, t, h1, by rw [hl]; exact h2, fun i e he => ?_⟩
    have hlt := (List.getElem?_eq_some_iff.1 he).1
    have hf : fs[i]? = some (fs[i]'(by omega)) := List.getElem?_eq_getElem (by omega)
    obtain ⟨q1, q2⟩ := h i e _ he hf
    obtain ⟨r1, r2⟩ := h3 i _ hf
    refine ⟨q1.trans r1, fun j c hc => ?_⟩
    have hjl := (List.getElem?_eq_some_iff.1 hc).1
    have hd : (fs[i]'(by omega)).cells[j]? = some ((fs[i]'(by omega)).cells[j]'(by omega)) := List.getElem?_eq_getElem (by omega)
    obtain ⟨v, hv, hr⟩ := r2 j _ hd
    exact ⟨v, hv, (q2 j c _ hc hd).rep hs hr⟩
  | box wd e f hl h =>
    obtain ⟨C, t, h1, h2, h3⟩ := ho
    refine ⟨C, t, h1, h2, fun i e' he => ?_⟩
    have hlt := (List.getElem?_eq_some_iff.1 he).1
    simp at hlt
    subst hlt
    simp at he
    subst he
    obtain ⟨r1, r2⟩ := h3 0 f rfl
    refine ⟨hl.trans r1, fun j c hc => ?_⟩
    have hjl := (List.getElem?_eq_some_iff.1 hc).1
    have hd : f.cells[j]? = some (f.cells[j]'(by omega)) := List.getElem?_eq_getElem (by omega)
    obtain ⟨v, hv, hr⟩ := r2 j _ hd
    exact ⟨v, hv, (h j c _ hc hd).rep hs hr⟩
def AO.ren (π : List Nat) : AO → AO
  | .arr w es => .arr w (renL π es)
  | .box w e => .box w (e.ren π)
  | .mp c es => .mp c (es.map fun x => (x.1, x.2.1.ren π, x.2.2.ren π))
  | .it p since seen last => .it (π.getD p 0) since seen last
  | .loop st pend n l ps as bd => .loop st pend n (l.map fun x => (x.1, x.2.ren π)) ps as bd
theorem agetL_ren (π : List Nat) : ∀ (l : List (Nat × AV)) (t : Nat), agetL (l.map fun x => (x.1, x.2.ren π)) t = (agetL l t).ren π
  | [], t => rfl
  | (d, v) :: l, t => by
    simp only [List.map_cons, agetL]
    split
    · rfl
    · exact agetL_ren π l t
theorem ObjRel.ren {w : World} {I : Nat → Prop} {ρs ρ : List Nat} {π : List Nat} (hs : SubRho π ρs ρ) {b : Nat} {o : AO} (h : ObjRel w I ρs b o) : ObjRel w I ρ b (o.ren π) := by
  have cellwise : ∀ (C : Array Value) (wd i : Nat) (e : AV), (e.cells.length = wd ∧ ∀ (j : Nat) (c : AV), e.cells[j]? = some c → ∃ v : Value, C[i * wd + j]? = some v ∧ Rep w I ρs v c) → ((e.ren π).cells.length = wd ∧ ∀ (j : Nat) (c : AV), (e.ren π).cells[j]? = some c → ∃ v : Value, C[i * wd + j]? = some v ∧ Rep w I ρ v c) := by
    intro C wd i e ⟨h1, h2⟩
    rw [ren_cells]
    refine ⟨by simpa using h1, fun j c hc => ?_⟩
    rw [List.getElem?_map] at hc
    cases hx : e.cells[j]? with
    | none => rw [hx] at hc; cases hc
    | some x =>
      rw [hx] at hc; cases hc
      obtain ⟨v, hv, hr⟩ := h2 j x hx
      exact ⟨v, hv, hr.ren hs⟩
  cases o with
  | arr wd els =>
    obtain ⟨C, t, h1, h2, h3⟩ := h
    refine ⟨C, t, h1, by rw [renL_map]; simpa using h2, fun i e he => ?_⟩
    rw [renL_map, List.getElem?_map] at he
    cases hx : els[i]? with
    | none => rw [hx] at he; cases he
    | some x => rw [hx] at he; cases he; exact cellwise C wd i x (h3 i x hx)
  | box wd e =>
    obtain ⟨C, t, h1, h2, h3⟩ := h
    refine ⟨C, t, h1, h2, fun i e' he => ?_⟩
    have hlt := (List.getElem?_eq_some_iff.1 he).1
    simp at hlt
    subst hlt
    simp at he
    subst he
    exact cellwise C wd 0 e (h3 0 e rfl)
  | mp c es =>
    obtain ⟨E, h1, h2, h3⟩ := h
    refine ⟨E, h1, by simpa using h2, fun i x e hx he => ?_⟩
    rw [List.getElem?_map] at hx
    cases hy : es[i]? with
    | none => rw [hy] at hx; cases hx
    | some y =>
      rw [hy] at hx; cases hx
      exact ⟨(h3 i y e hy he).1, (h3 i y e hy he).2.1.ren hs, (h3 i y e hy he).2.2.ren hs⟩
  | it p since seen last =>
    obtain ⟨m, h1, h2⟩ := h
    obtain ⟨q, h3, h4⟩ := hs p m h1
    exact ⟨m, by rw [List.getD_eq_getElem?_getD, h3]; exact h4, h2⟩
  | loop st pend n l ps as bd =>
    obtain ⟨fn, tmps, D, h1, h2, h3⟩ := h
    exact ⟨fn, tmps, D, h1, h2, fun t => by rw [agetL_ren]; exact (h3 t).ren hs⟩
def AEnd.ren (π : List Nat) : AEnd → AEnd
  | .ret v => .ret (v.ren π)
  | .pan v => .pan (v.ren π)
/-- The callee's objects, put back among the caller's. -/
def mergeL (L : Store) (π : List Nat) (π' : List Nat) (L' : Store) : Store :=
  ((List.range L.length).map fun q => match π.idxOf? q with
    | some i => ((L'[i]?).join).map (·.ren π')
    | none => (L[q]?).join) ++ (L'.drop π.length).map (·.map (·.ren π'))
def news (L : Store) (π : List Nat) (L' : Store) : List Nat := π ++ (List.range (L'.length - π.length)).map (L.length + ·)
theorem TCall.frame {P : Program} {f : FuncId} {args args' : List AV} {L Ls : Store} {R R' : AEnd → Store → Prop} (π : List Nat) (h : TCall P f args Ls R) (hd : π.Nodup) (hlen : π.length = Ls.length)
    (hobj : ∀ (i p : Nat), π[i]? = some p → p < L.length ∧ ∀ o, Ls[i]? = some (some o) → ∃ o', L[p]? = some (some o') ∧ RnO π o o')
    (hal : args.length = args'.length) (hargs : ∀ (j : Nat) (a a' : AV), args[j]? = some a → args'[j]? = some a' → Rn π a a')
    (hR : ∀ x L', π.length ≤ L'.length → R x L' → R' (x.ren (news L π L')) (mergeL L π (news L π L') L')) : TCall P f args' L R' := by
  intro w I ρ vs h1 h2
  let ρs : List Nat := π.map fun p => ρ.getD p 0
  have hs : ∀ (i p : Nat), π[i]? = some p → ∃ b, ρs[i]? = some b ∧ ρ[p]? = some b := by
    intro i p hp
    have hlt := (hobj i p hp).1
    rw [← h1.len] at hlt
    refine ⟨ρ[p], ?_, List.getElem?_eq_getElem hlt⟩
    simp [ρs, List.getElem?_map, hp, hlt]
  have hρs : ∀ (i b : Nat), ρs[i]? = some b → ∃ p, π[i]? = some p ∧ ρ[p]? = some b := by
    intro i b hb
    have hi := (List.getElem?_eq_some_iff.1 hb).1
    simp [ρs] at hi
    obtain ⟨p, hp⟩ : ∃ p, π[i]? = some p := ⟨π[i], List.getElem?_eq_getElem hi⟩
    obtain ⟨b', q1, q2⟩ := hs i p hp
    rw [q1] at hb
    cases hb
    exact ⟨p, hp, q2⟩
  have hrel : Rel w I ρs Ls := by
    refine ⟨by simp [ρs, hlen], fun i o b hi hb => ?_, fun i j o o' b hi hj hbi hbj => ?_, h1.imm⟩
    · obtain ⟨p, hp, hpb⟩ := hρs i b hb
      obtain ⟨o', ho', hrn⟩ := (hobj i p hp).2 o hi
      obtain ⟨a1, a2, a3⟩ := h1.own p o' b ho' hpb
      exact ⟨a1, a2, hrn.rep hs a3⟩
    · obtain ⟨p, hp, hpb⟩ := hρs i b hbi
      obtain ⟨q, hq, hqb⟩ := hρs j b hbj
      obtain ⟨o1, ho1, _⟩ := (hobj i p hp).2 o hi
      obtain ⟨o2, ho2, _⟩ := (hobj j q hq).2 o' hj
      have : p = q := h1.inj p q o1 o2 b ho1 ho2 hpb hqb
      subst this
      have hi' := (List.getElem?_eq_some_iff.1 hp).1
      have hj' := (List.getElem?_eq_some_iff.1 hq).1
      exact (List.getElem?_inj hi' hd).1 (hp.trans hq.symm)
  have hargs' : RepL w I ρs vs args := ⟨h2.1.trans hal.symm, fun j v a hv ha => by
    have hlt := (List.getElem?_eq_some_iff.1 ha).1
    have ha' : args'[j]? = some (args'[j]'(by omega)) := List.getElem?_eq_getElem (by omega)
    exact (hargs j a _ ha ha').rep hs (h2.2 j v _ hv ha')⟩
  have hown : ∀ b, Owned ρs Ls b → Owned ρ L b := fun b ⟨i, o, hi, hb⟩ => by
    obtain ⟨p, hp, hpb⟩ := hρs i b hb
    obtain ⟨o', ho', _⟩ := (hobj i p hp).2 o hi
    exact ⟨p, o', ho', hpb⟩
  refine (h w I ρs vs hrel hargs').mono ?_
  rintro e w' ⟨x, L', I', ρ', hx, hq, r1, hρ', ev⟩
  have hge : π.length ≤ L'.length := by
    rw [← r1.len]
    rcases Nat.lt_or_ge ρ'.length π.length with hlt | hge
    · exfalso
      have hlt2 : ρ'.length < ρs.length := by simpa [ρs] using hlt
      have := hρ' ρ'.length _ (List.getElem?_eq_getElem hlt2)
      have := (List.getElem?_eq_some_iff.1 this).1
      omega
    · exact hge
  let ρ2 : List Nat := ρ ++ ρ'.drop π.length
  let π' := news L π L'
  have hsub : SubRho π' ρ' ρ2 := by
    intro i b hb
    have hi := (List.getElem?_eq_some_iff.1 hb).1
    by_cases hlt : i < π.length
    · obtain ⟨p, hp⟩ : ∃ p, π[i]? = some p := ⟨π[i], List.getElem?_eq_getElem hlt⟩
      obtain ⟨b', q1, q2⟩ := hs i p hp
      have := hρ' i b' q1
      rw [hb] at this
      cases this
      refine ⟨p, by simp only [π', news]; rw [List.getElem?_append_left hlt]; exact hp, ?_⟩
      simp only [ρ2]
      rw [List.getElem?_append_left (List.getElem?_eq_some_iff.1 q2).1]
      exact q2
    · refine ⟨L.length + (i - π.length), ?_, ?_⟩
      · simp only [π', news]
        rw [List.getElem?_append_right (by omega), List.getElem?_map, List.getElem?_range (by rw [← r1.len]; omega)]
        rfl
      · simp only [ρ2]
        rw [List.getElem?_append_right (by rw [h1.len]; omega), List.getElem?_drop, ← hb]
        congr 1
        rw [h1.len]
        omega
  have hle : Le w I ρ w' I' ρ2 := ⟨fun b hb => ev.keep b (h1.imm b hb) (fun ho => h1.free hb (hown b ho)), ev.imm, fun p b hp => by
      simp only [ρ2]
      rw [List.getElem?_append_left (List.getElem?_eq_some_iff.1 hp).1]; exact hp, ev.cells⟩
  -- what stands at a place
  have cs : ∀ (q : Nat) (o : AO) (b : Nat), (mergeL L π π' L')[q]? = some (some o) → ρ2[q]? = some b →
      (∃ i o', L'[i]? = some (some o') ∧ ρ'[i]? = some b ∧ o = o'.ren π' ∧ ((i < π.length ∧ π[i]? = some q) ∨ (π.length ≤ i ∧ q = L.length + (i - π.length)))) ∨
      (L[q]? = some (some o) ∧ ρ[q]? = some b ∧ q ∉ π ∧ q < L.length) := by
    intro q o b hq hb
    simp only [mergeL] at hq
    by_cases hlt : q < L.length
    · rw [List.getElem?_append_left (by simpa using hlt), List.getElem?_map, List.getElem?_range hlt] at hq
      simp only [Option.map_some, Option.some.injEq] at hq
      have hb1 : ρ[q]? = some b := by
        simp only [ρ2] at hb
        rwa [List.getElem?_append_left (by rw [h1.len]; exact hlt)] at hb
      cases hix : π.idxOf? q with
      | some i =>
        rw [hix] at hq
        have hmem := List.idxOf?_eq_some_iff.1 hix
        obtain ⟨hil, hiq, _⟩ := hmem
        have hiq' : π[i]? = some q := by rw [List.getElem?_eq_getElem hil]; simpa using hiq
        obtain ⟨b', q1, q2⟩ := hs i q hiq'
        rw [hb1] at q2
        cases q2
        cases hL' : L'[i]? with
        | none => simp [hL'] at hq
        | some y => cases y with
          | none => simp [hL'] at hq
          | some o' =>
            simp [hL'] at hq
            exact .inl ⟨i, o', hL', hρ' i b q1, hq.symm, .inl ⟨hil, hiq'⟩⟩
      | none =>
        rw [hix] at hq
        have hno : q ∉ π := by simpa [List.idxOf?_eq_none_iff] using hix
        cases hL : L[q]? with
        | none => simp [hL] at hq
        | some y => cases y with
          | none => simp [hL] at hq
          | some o' =>
            simp [hL] at hq
            subst hq
            exact .inr ⟨rfl, hb1, hno, hlt⟩
    · rw [List.getElem?_append_right (by simpa using hlt), List.length_map, List.length_range, List.getElem?_map, List.getElem?_drop] at hq
      cases hL' : L'[π.length + (q - L.length)]? with
      | none => simp [hL'] at hq
      | some y => cases y with
        | none => simp [hL'] at hq
        | some o' =>
          simp [hL'] at hq
          simp only [ρ2] at hb
          rw [List.getElem?_append_right (by rw [h1.len]; omega), List.getElem?_drop, h1.len] at hb
          exact .inl ⟨_, o', hL', hb, hq.symm, .inr ⟨by omega, by omega⟩⟩
  have hrel2 : Rel w' I' ρ2 (mergeL L π π' L') := by
    refine ⟨?_, fun q o b hq hb => ?_, fun q q' o o' b hq hq' hb hb' => ?_, r1.imm⟩
    · simp only [ρ2, mergeL]
      rw [List.length_append, List.length_append, List.length_map, List.length_range, List.length_map, List.length_drop, List.length_drop, h1.len, r1.len]
    · rcases cs q o b hq hb with ⟨i, o', k1, k2, rfl, _⟩ | ⟨k1, k2, k3, k4⟩
      · obtain ⟨a1, a2, a3⟩ := r1.own i o' b k1 k2
        exact ⟨a1, a2, a3.ren hsub⟩
      · obtain ⟨a1, a2, a3⟩ := h1.own q o b k1 k2
        have hno : ¬ Owned ρs Ls b := fun ⟨i, os, hi, hbi⟩ => by
          obtain ⟨p, hp, hpb⟩ := hρs i b hbi
          obtain ⟨o1, ho1, _⟩ := (hobj i p hp).2 os hi
          have : p = q := h1.inj p q o1 o b ho1 k1 hpb k2
          subst this
          exact k3 (List.mem_of_getElem? hp)
        refine ⟨Nat.lt_of_lt_of_le a1 ev.size, fun hI => ?_, a3.mono hle (ev.keep b a1 hno)⟩
        rcases ev.imm' b hI with y | y | y
        · exact a2 y
        · omega
        · exact hno y
    · rcases cs q o b hq hb with ⟨i, o1, k1, k2, _, k5⟩ | ⟨k1, k2, k3, k4⟩ <;> rcases cs q' o' b hq' hb' with ⟨i', o1', k1', k2', _, k5'⟩ | ⟨k1', k2', k3', k4'⟩
      · have hii : i = i' := r1.inj i i' o1 o1' b k1 k1' k2 k2'
        subst hii
        rcases k5 with ⟨_, k5⟩ | ⟨k5a, k5⟩ <;> rcases k5' with ⟨_, k5'⟩ | ⟨k5a', k5'⟩
        · rw [k5] at k5'; cases k5'; rfl
        · omega
        · omega
        · omega
      · exfalso
        rcases ev.own b ⟨i, o1, k1, k2⟩ with ⟨j, os, hj, hbj⟩ | hsz
        · obtain ⟨p, hp, hpb⟩ := hρs j b hbj
          obtain ⟨o2, ho2, _⟩ := (hobj j p hp).2 os hj
          have : p = q' := h1.inj p q' o2 o' b ho2 k1' hpb k2'
          subst this
          exact k3' (List.mem_of_getElem? hp)
        · have := (h1.own q' o' b k1' k2').1
          omega
      · exfalso
        rcases ev.own b ⟨i', o1', k1', k2'⟩ with ⟨j, os, hj, hbj⟩ | hsz
        · obtain ⟨p, hp, hpb⟩ := hρs j b hbj
          obtain ⟨o2, ho2, _⟩ := (hobj j p hp).2 os hj
          have : p = q := h1.inj p q o2 o b ho2 k1 hpb k2
          subst this
          exact k3 (List.mem_of_getElem? hp)
        · have := (h1.own q o b k1 k2).1
          omega
      · exact h1.inj q q' o o' b k1 k1' k2 k2'
  refine ⟨x.ren π', mergeL L π π' L', I', ρ2, ?_, hR x L' hge hq, hrel2, hle.rho, ⟨ev.os, ev.tape, ev.output, ev.size, fun b hb hn => ev.keep b hb (fun ho => hn (hown b ho)), ev.imm, fun b hb => ?_, fun b ⟨q, o, hq', hb⟩ => ?_, ev.cells, fun p hp => ?_⟩⟩
  · cases e with
    | returned v => cases x with
      | ret a => exact Rep.ren hsub hx
      | pan a => exact hx.elim
    | panicked ch => cases x with
      | ret a => exact hx.elim
      | pan a =>
        obtain ⟨v, rfl, hv⟩ := hx
        exact ⟨v, rfl, Rep.ren hsub hv⟩
    | outgrown => cases x <;> exact hx.elim
  · rcases ev.imm' b hb with y | y | y
    · exact .inl y
    · exact .inr (.inl y)
    · exact .inr (.inr (hown b y))
  · rcases cs q o b hq' hb with ⟨i, o1, k1, k2, _, _⟩ | ⟨k1, k2, _, _⟩
    · rcases ev.own b ⟨i, o1, k1, k2⟩ with y | y
      · exact .inl (hown b y)
      · exact .inr y
    · exact .inl ⟨q, o, k1, k2⟩
  · simp only [ρ2]
    exact List.getElem?_append_left (by rw [h1.len]; exact hp)
end Go.Proofs.Ytaieiigfheabfaa.Tw
