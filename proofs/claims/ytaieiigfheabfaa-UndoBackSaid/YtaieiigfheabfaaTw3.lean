import Derived.Test.YtaieiigfheabfaaTw2
import Derived.MapKept
import Derived.Laws.IdiomRangeMap
import Derived.RangeFuncCalls
/-! Maps: made, looked up, written, gone over. -/
namespace Go.Proofs.Ytaieiigfheabfaa.Tw
open Go.RowKit
set_option linter.unusedVariables false
set_option linter.unusedSimpArgs false
theorem chg_set {w : World} {b : Nat} {o o' : Obj} (h : w.heap[b]? = some o) (hn : ∀ C t, o ≠ .cells C t (0, 0)) : Chg w { w with heap := w.heap.setIfInBounds b o' } b :=
  ⟨rfl, rfl, rfl, by simp, fun k hk => by simp [Ne.symm hk], fun C t h1 => by rw [h] at h1; cases h1; exact absurd rfl (hn C t)⟩
theorem idxA_lt {k : AV} : ∀ {es : Ents} {j : Nat}, idxA k es = some j → j < es.length
  | [], j, h => by simp [idxA] at h
  | x :: es, j, h => by
    simp only [idxA] at h
    split at h
    · cases h; simp
    · obtain ⟨i, hi, rfl⟩ := Option.map_eq_some_iff.1 h
      have := idxA_lt hi
      simp; omega
/-- A map is written. -/
def amapUpdate (u : TypeId → Option TypeDesc) (L : Store) (t : TypeId) (m k v : AV) (N : AV → Store → Prop) : Prop := mapT u t fun d e => match m with
  | .map p => match (L[p]?).join with
    | some (.mp c es) => Keys d k es ∧ ∃ c' es', upA c k v es = (c', es') ∧ N .any (L.set p (some (.mp c' es')))
    | _ => False
  | _ => False
theorem key_stays {w : World} {I : Nat → Prop} {ρ : List Nat} {d : TypeDesc} {u v : Value} {a b : AV} (hu : Rep w I ρ u a) (hv : Rep w I ρ v b) (ha : keyB d a = true) (hb : keyB d b = true) (he : keyEq a b = true) : u = v := by
  rcases keyB_cases ha with ⟨k, n, rfl, rfl⟩ | ⟨s, rfl, rfl⟩ | ⟨b1, rfl, rfl⟩ <;> rcases keyB_cases hb with ⟨k', n', e1, rfl⟩ | ⟨s', e1, rfl⟩ | ⟨b2, e1, rfl⟩ <;> cases e1 <;> cases hu <;> cases hv <;> simp [keyEq] at he
  · rw [he]
  · rw [(MapKept.bytes_beq _ _).1 he]
  · rw [he]
theorem amapUpdate_ok {P : Program} {K : Nat} {L : Store} {o : Oper} {t : TypeId} {m k x : Operand} {fr : AFr} {N : AV → Store → Prop} (ho : o.op = .mapUpdate t m k x) (h : amapUpdate P.underlying L t (aval fr m) (aval fr k) (aval fr x) N) : WOk P K L (fun a w => (execOp a.eval o).run P w) fr N := by
  obtain ⟨kt, et, d, hu, hd, h⟩ := mapT_ok h
  obtain ⟨p, c, es, hm, hp, hk, c', es', hup, h⟩ : ∃ p c es, aval fr m = .map p ∧ (L[p]?).join = some (.mp c es) ∧ Keys d (aval fr k) es ∧ ∃ c' es', upA c (aval fr k) (aval fr x) es = (c', es') ∧ N .any (L.set p (some (.mp c' es'))) := by
    split at h
    · split at h
      · rename_i hm _ _ _ hp; exact ⟨_, _, _, hm, hp, h⟩
      · exact h.elim
    · exact h.elim
  refine ⟨_, _, h, fun a w I ρ hr hf => ?_⟩
  have hmr := aval_rep hf m
  have hkr := aval_rep hf k
  have hxr := aval_rep hf x
  rw [hm] at hmr
  generalize hmv : a.eval m = mv at hmr
  generalize hkv : a.eval k = kv at hkr
  generalize hxv : a.eval x = xv at hxr
  cases hmr with
  | map _ b hb =>
    obtain ⟨E, q1, q2, q3⟩ := map_obj hr hp hb
    have hkey := key_is hkr hk.one
    have hc := MapKept.run_checkKey (P := P) (w := w) hd hkey false 9999
    have fin : ∀ (E' : Array MapEntry), (Instr.mapUpdate t (.map (some b)) kv xv).run P w = .ok () { w with heap := w.heap.setIfInBounds b (.map E' c') } → E'.toList.length = es'.length → (∀ (i : Nat) (x : Nat × AV × AV) (e : MapEntry), es'[i]? = some x → E'.toList[i]? = some e → e.born = x.1 ∧ Rep w I ρ e.key x.2.1 ∧ Rep w I ρ e.val x.2.2) →
        ∃ v w' I' ρ', ((execOp a.eval o).run P w = .ok (.value v) w' ∨ ((execOp a.eval o).run P w = .ok .skip w' ∧ v = undef)) ∧ Rel w' I' ρ' (L.set p (some (.mp c' es'))) ∧ Rep w' I' ρ' v .any ∧ Le w I ρ w' I' ρ' ∧ Ev K w I ρ L w' I' ρ' (L.set p (some (.mp c' es'))) := by
      intro E' hrun hl hE
      have hlt := (hr.own p _ b (oneat0 hp) hb).1
      obtain ⟨r1, r2, r3⟩ := write_obj (K := K) (o' := .mp c' es') hr (oneat0 hp) hb (chg_set (o' := .map E' c') q1 (fun C t h => by cases h)) (fun hle => ⟨E', by simp [hlt], by simpa using hl, fun i x e hx he => by
        obtain ⟨t1, t2, t3⟩ := hE i x e hx (by simpa using he)
        exact ⟨t1, t2.mono hle, t3.mono hle⟩⟩)
      exact ⟨undef, _, I, ρ, .inr ⟨by simp [execOp, ho, hmv, hkv, hxv, hrun], rfl⟩, r1, .any _, r2, r3⟩
    rcases findNow_A hkr hk.one E.toList es 0 q2 (fun j x e hx he => (q3 j x e hx he).2.1) hk.all with ⟨i1, i2⟩ | ⟨j, e, i1, i2, i3, y, i4, i5⟩
    · simp only [upA, i1, Prod.mk.injEq] at hup
      obtain ⟨rfl, rfl⟩ := hup
      refine fin (E.push { key := kv, val := xv, born := c }) ?_ (by simp [q2]) (fun i x e hx he => ?_)
      · simp [Instr.mapUpdate, run_underlying hu, MapKept.run_getObj_map q1, hc, MapKept.run_findKey hd i2, MapKept.run_setObj_map _ q1, Result.andThen]
      · rw [Array.toList_push] at he
        by_cases hi : i < es.length
        · rw [List.getElem?_append_left hi] at hx
          rw [List.getElem?_append_left (by omega)] at he
          exact q3 i x e hx he
        · have hi2 : i = es.length := by
            have := (List.getElem?_eq_some_iff.1 hx).1
            simp at this
            omega
          subst hi2
          rw [List.getElem?_append_right (by omega)] at hx he
          simp [q2] at hx he
          subst hx he
          exact ⟨rfl, hkr, hxr⟩
    · simp only [upA, i1, Prod.mk.injEq] at hup
      obtain ⟨rfl, rfl⟩ := hup
      have hj : E[j]? = some e := by simpa using i2
      have hek : e.key = kv := (key_stays hkr (q3 j y e i4 i2).2.1 hk.one (hk.all y (List.mem_of_getElem? i4)) i5).symm
      refine fin (E.modify j fun e => { e with key := kv, val := xv }) ?_ (by simp [q2]) (fun i x e' hx he => ?_)
      · simp [Instr.mapUpdate, run_underlying hu, MapKept.run_getObj_map q1, hc, MapKept.run_findKey hd i3, hj, hek, MapKept.run_keyThatStays hkey, MapKept.run_setObj_map _ q1, Result.andThen]
      · rw [Array.toList_modify, List.getElem?_modify] at he
        rw [List.getElem?_modify] at hx
        obtain ⟨x0, hx0, hx⟩ := Option.map_eq_some_iff.1 hx
        obtain ⟨e0, he0, he⟩ := Option.map_eq_some_iff.1 he
        obtain ⟨t1, t2, t3⟩ := q3 i x0 e0 hx0 he0
        by_cases hij : j = i
        · rw [if_pos hij] at hx he
          subst hx he
          exact ⟨t1, hkr, hxr⟩
        · rw [if_neg hij] at hx he
          subst hx he
          exact ⟨t1, t2, t3⟩
/-- A map whose keys are structs of one number is written. -/
def amapUpdateS (P : Program) (u : TypeId → Option TypeDesc) (L : Store) (t : TypeId) (m k v : AV) (N : AV → Store → Prop) : Prop := mapTS u t fun kt e => match m with
  | .map p => match (L[p]?).join with
    | some (.mp c es) => KeysS P kt k es ∧ ∃ c' es', upA c k v es = (c', es') ∧ N .any (L.set p (some (.mp c' es')))
    | _ => False
  | _ => False
theorem amapUpdateS_ok {P : Program} {K : Nat} {L : Store} {o : Oper} {t : TypeId} {m k x : Operand} {fr : AFr} {N : AV → Store → Prop} (ho : o.op = .mapUpdate t m k x) (h : amapUpdateS P P.underlying L t (aval fr m) (aval fr k) (aval fr x) N) : WOk P K L (fun a w => (execOp a.eval o).run P w) fr N := by
  obtain ⟨kt, et, hu, h⟩ : ∃ kt et, P.underlying t = some (.map kt et) ∧ _ := by
    unfold amapUpdateS mapTS at h
    split at h
    · rename_i kt et hu; exact ⟨kt, et, hu, h⟩
    · exact h.elim
  obtain ⟨p, c, es, hm, hp, hk, c', es', hup, h⟩ : ∃ p c es, aval fr m = .map p ∧ (L[p]?).join = some (.mp c es) ∧ KeysS P kt (aval fr k) es ∧ ∃ c' es', upA c (aval fr k) (aval fr x) es = (c', es') ∧ N .any (L.set p (some (.mp c' es'))) := by
    split at h
    · split at h
      · rename_i hm _ _ _ hp; exact ⟨_, _, _, hm, hp, h⟩
      · exact h.elim
    · exact h.elim
  refine ⟨_, _, h, fun a w I ρ hr hf => ?_⟩
  have hmr := aval_rep hf m
  have hkr := aval_rep hf k
  have hxr := aval_rep hf x
  rw [hm] at hmr
  generalize hmv : a.eval m = mv at hmr
  generalize hkv : a.eval k = kv at hkr
  generalize hxv : a.eval x = xv at hxr
  cases hmr with
  | map _ b hb =>
    obtain ⟨E, q1, q2, q3⟩ := map_obj hr hp hb
    obtain ⟨kn, kl, ek1, ek2⟩ := hk.one
    have hkv2 : kv = .agg #[.int .i64 kn] := by
      have := hkr
      rw [ek1] at this
      exact repS this
    have hc : (Instr.checkKey false 10000 kt kv).run P w = .ok () w := by rw [hkv2]; exact hk.keyed.check w false ek2
    have hst : (Instr.keyThatStays kv kv).run P w = .ok kv w := by rw [hkv2]; exact hk.keyed.stays w ek2
    have fin : ∀ (E' : Array MapEntry), (Instr.mapUpdate t (.map (some b)) kv xv).run P w = .ok () { w with heap := w.heap.setIfInBounds b (.map E' c') } → E'.toList.length = es'.length → (∀ (i : Nat) (x : Nat × AV × AV) (e : MapEntry), es'[i]? = some x → E'.toList[i]? = some e → e.born = x.1 ∧ Rep w I ρ e.key x.2.1 ∧ Rep w I ρ e.val x.2.2) →
        ∃ v w' I' ρ', ((execOp a.eval o).run P w = .ok (.value v) w' ∨ ((execOp a.eval o).run P w = .ok .skip w' ∧ v = undef)) ∧ Rel w' I' ρ' (L.set p (some (.mp c' es'))) ∧ Rep w' I' ρ' v .any ∧ Le w I ρ w' I' ρ' ∧ Ev K w I ρ L w' I' ρ' (L.set p (some (.mp c' es'))) := by
      intro E' hrun hl hE
      have hlt := (hr.own p _ b (oneat0 hp) hb).1
      obtain ⟨r1, r2, r3⟩ := write_obj (K := K) (o' := .mp c' es') hr (oneat0 hp) hb (chg_set (o' := .map E' c') q1 (fun C t h => by cases h)) (fun hle => ⟨E', by simp [hlt], by simpa using hl, fun i x e hx he => by
        obtain ⟨t1, t2, t3⟩ := hE i x e hx (by simpa using he)
        exact ⟨t1, t2.mono hle, t3.mono hle⟩⟩)
      exact ⟨undef, _, I, ρ, .inr ⟨by simp [execOp, ho, hmv, hkv, hxv, hrun], rfl⟩, r1, .any _, r2, r3⟩
    rcases findS_A (w0 := w) hkr hk (l := E.toList) q2 (fun j x e hx he => (q3 j x e hx he).2.1) with ⟨i1, i2⟩ | ⟨j, e, i1, i2, i3, hek, y, i4⟩
    · simp only [upA, i1, Prod.mk.injEq] at hup
      obtain ⟨rfl, rfl⟩ := hup
      refine fin (E.push { key := kv, val := xv, born := c }) ?_ (by simp [q2]) (fun i x e hx he => ?_)
      · simp [Instr.mapUpdate, run_underlying hu, MapKept.run_getObj_map q1, hc, i2, MapKept.run_setObj_map _ q1, Result.andThen]
      · rw [Array.toList_push] at he
        by_cases hi : i < es.length
        · rw [List.getElem?_append_left hi] at hx
          rw [List.getElem?_append_left (by omega)] at he
          exact q3 i x e hx he
        · have hi2 : i = es.length := by
            have := (List.getElem?_eq_some_iff.1 hx).1
            simp at this
            omega
          subst hi2
          rw [List.getElem?_append_right (by omega)] at hx he
          simp [q2] at hx he
          subst hx he
          exact ⟨rfl, hkr, hxr⟩
    · simp only [upA, i1, Prod.mk.injEq] at hup
      obtain ⟨rfl, rfl⟩ := hup
      have hj : E[j]? = some e := by simpa using i2
      refine fin (E.modify j fun e => { e with key := kv, val := xv }) ?_ (by simp [q2]) (fun i x e' hx he => ?_)
      · simp [Instr.mapUpdate, run_underlying hu, MapKept.run_getObj_map q1, hc, i3, hj, hek, hst, MapKept.run_setObj_map _ q1, Result.andThen]
      · rw [Array.toList_modify, List.getElem?_modify] at he
        rw [List.getElem?_modify] at hx
        obtain ⟨x0, hx0, hx⟩ := Option.map_eq_some_iff.1 hx
        obtain ⟨e0, he0, he⟩ := Option.map_eq_some_iff.1 he
        obtain ⟨t1, t2, t3⟩ := q3 i x0 e0 hx0 he0
        by_cases hij : j = i
        · rw [if_pos hij] at hx he
          subst hx he
          exact ⟨t1, hkr, hxr⟩
        · rw [if_neg hij] at hx he
          subst hx he
          exact ⟨t1, t2, t3⟩
/-- A map is made. -/
def amakeMap (K : Nat) (L : Store) (N : AV → Store → Prop) : Prop := K ≤ L.length ∧ N (.map L.length) (L ++ [some (.mp 0 [])])
theorem amakeMap_ok {P : Program} {K : Nat} {L : Store} {o : Oper} {t : TypeId} {fr : AFr} {N : AV → Store → Prop} (ho : o.op = .makeMap t none) (h : amakeMap K L N) : WOk P K L (fun a w => (execOp a.eval o).run P w) fr N := by
  obtain ⟨hK, h⟩ := h
  refine ⟨_, _, h, fun a w I ρ hr hf => ?_⟩
  obtain ⟨m1, m2, m3⟩ := alloc_obj (K := K) (o := .mp 0 []) hr (push_alloc w (Obj.map #[] 0)) hK (fun hle => ⟨#[], (push_alloc w _).new, rfl, fun i x e hx => by simp at hx⟩)
  exact ⟨.map (some w.heap.size), _, I, _, .inl (by simp [execOp, ho, Instr.makeMap]), m1, .map _ _ (by rw [← hr.len]; simp), m2, m3⟩
/-- An entry is taken away. -/
def adelete (u : TypeId → Option TypeDesc) (L : Store) (t : TypeId) (m k : AV) (N : AV → Store → Prop) : Prop := mapT u t fun d e => match m with
  | .map p => match (L[p]?).join with
    | some (.mp c es) => Keys d k es ∧ ∃ es', delA k es = es' ∧ N (.tup []) (L.set p (some (.mp c es')))
    | _ => False
  | _ => False
theorem adelete_ok {P : Program} {K : Nat} {L : Store} {o : Oper} {t t' : TypeId} {m k : Operand} {fr : AFr} {N : AV → Store → Prop} (ho : o.op = .call ⟨.builtin .delete, #[m, k], #[t, t']⟩) (h : adelete P.underlying L t (aval fr m) (aval fr k) N) : WOk P K L (fun a w => (execOp a.eval o).run P w) fr N := by
  obtain ⟨kt, et, d, hu, hd, h⟩ := mapT_ok h
  obtain ⟨p, c, es, hm, hp, hk, es', hup, h⟩ : ∃ p c es, aval fr m = .map p ∧ (L[p]?).join = some (.mp c es) ∧ Keys d (aval fr k) es ∧ ∃ es', delA (aval fr k) es = es' ∧ N (.tup []) (L.set p (some (.mp c es'))) := by
    split at h
    · split at h
      · rename_i hm _ _ _ hp; exact ⟨_, _, _, hm, hp, h⟩
      · exact h.elim
    · exact h.elim
  refine ⟨_, _, h, fun a w I ρ hr hf => ?_⟩
  have hmr := aval_rep hf m
  have hkr := aval_rep hf k
  rw [hm] at hmr
  generalize hmv : a.eval m = mv at hmr
  generalize hkv : a.eval k = kv at hkr
  cases hmr with
  | map _ b hb =>
    obtain ⟨E, q1, q2, q3⟩ := map_obj hr hp hb
    have hkey := key_is hkr hk.one
    have hc := MapKept.run_checkKey (P := P) (w := w) hd hkey E.isEmpty 9999
    have hlt := (hr.own p _ b (oneat0 hp) hb).1
    have fin : ∀ (E' : Array MapEntry), (Builtin.delete_ #[t, t'] o.type #[.map (some b), kv]).run P w = .ok (.tuple #[]) { w with heap := w.heap.setIfInBounds b (.map E' c) } → E'.toList.length = es'.length → (∀ (i : Nat) (x : Nat × AV × AV) (e : MapEntry), es'[i]? = some x → E'.toList[i]? = some e → e.born = x.1 ∧ Rep w I ρ e.key x.2.1 ∧ Rep w I ρ e.val x.2.2) →
        ∃ v w' I' ρ', ((execOp a.eval o).run P w = .ok (.value v) w' ∨ ((execOp a.eval o).run P w = .ok .skip w' ∧ v = undef)) ∧ Rel w' I' ρ' (L.set p (some (.mp c es'))) ∧ Rep w' I' ρ' v (.tup []) ∧ Le w I ρ w' I' ρ' ∧ Ev K w I ρ L w' I' ρ' (L.set p (some (.mp c es'))) := by
      intro E' hrun hl hE
      obtain ⟨r1, r2, r3⟩ := write_obj (K := K) (o' := .mp c es') hr (oneat0 hp) hb (chg_set (o' := .map E' c) q1 (fun C t h => by cases h)) (fun hle => ⟨E', by simp [hlt], by simpa using hl, fun i x e hx he => by
        obtain ⟨t1, t2, t3⟩ := hE i x e hx (by simpa using he)
        exact ⟨t1, t2.mono hle, t3.mono hle⟩⟩)
      exact ⟨.tuple #[], _, I, ρ, .inl (by simp [execOp, ho, resolve, invoke, builtin, hmv, hkv, hrun]), r1, .tup [] [] rfl (fun _ _ _ h => by simp at h), r2, r3⟩
    rcases findNow_A hkr hk.one E.toList es 0 q2 (fun j x e hx he => (q3 j x e hx he).2.1) hk.all with ⟨i1, i2⟩ | ⟨j, e, i1, i2, i3, y, i4, i5⟩
    · simp only [delA, i1] at hup
      subst hup
      refine fin E ?_ q2 q3
      simp [Builtin.delete_, run_underlying hu, MapKept.run_getObj_map q1, hc, MapKept.run_findKey hd i2, MapKept.run_setObj_map _ q1, Result.andThen]
    · simp only [delA, i1] at hup
      subst hup
      have hj : j < E.size := by
        have := (List.getElem?_eq_some_iff.1 i2).1
        simpa using this
      refine fin (E.eraseIdxIfInBounds j) ?_ ?_ (fun i x e' hx he => ?_)
      · simp [Builtin.delete_, run_underlying hu, MapKept.run_getObj_map q1, hc, MapKept.run_findKey hd i3, MapKept.run_setObj_map _ q1, Result.andThen]
      · unfold Array.eraseIdxIfInBounds
        rw [dif_pos hj, Array.toList_eraseIdx, List.length_eraseIdx, List.length_eraseIdx, q2]
      · unfold Array.eraseIdxIfInBounds at he
        rw [dif_pos hj, Array.toList_eraseIdx, List.getElem?_eraseIdx] at he
        rw [List.getElem?_eraseIdx] at hx
        split at hx
        · rename_i h1; rw [if_pos h1] at he; exact q3 i x e' hx he
        · rename_i h1; rw [if_neg h1] at he; exact q3 _ x e' hx he
/-- A walk over a map begins. -/
def arange (u : TypeId → Option TypeDesc) (K : Nat) (L : Store) (t : TypeId) (m : AV) (N : AV → Store → Prop) : Prop := mapT u t fun d e => match m with
  | .map p => match (L[p]?).join with
    | some (.mp c es) => K ≤ L.length ∧ N (.ref L.length 0 0 0) (L ++ [some (.it p c [] c)])
    | _ => False
  | _ => False
theorem arange_le {u : TypeId → Option TypeDesc} {K : Nat} {L : Store} {t : TypeId} {m : AV} {N : AV → Store → Prop} (hK : K ≤ L.length) (h : arange u 0 L t m N) : arange u K L t m N := by
  unfold arange mapT at h ⊢
  split at h
  · split at h
    · split at h
      · split at h
        · exact ⟨hK, h.2⟩
        · exact h.elim
      · exact h.elim
    · exact h.elim
  · exact h.elim
theorem arange_ok {P : Program} {K : Nat} {L : Store} {o : Oper} {t : TypeId} {m : Operand} {fr : AFr} {N : AV → Store → Prop} (ho : o.op = .range t m) (h : arange P.underlying K L t (aval fr m) N) : WOk P K L (fun a w => (execOp a.eval o).run P w) fr N := by
  obtain ⟨kt, et, d, hu, hd, h⟩ := mapT_ok h
  obtain ⟨p, c, es, hm, hp, hK, h⟩ : ∃ p c es, aval fr m = .map p ∧ (L[p]?).join = some (.mp c es) ∧ K ≤ L.length ∧ N (.ref L.length 0 0 0) (L ++ [some (.it p c [] c)]) := by
    split at h
    · split at h
      · rename_i hm _ _ _ hp; exact ⟨_, _, _, hm, hp, h⟩
      · exact h.elim
    · exact h.elim
  refine ⟨_, _, h, fun a w I ρ hr hf => ?_⟩
  have hmr := aval_rep hf m
  rw [hm] at hmr
  generalize hmv : a.eval m = mv at hmr
  cases hmr with
  | map _ b hb =>
    obtain ⟨E, q1, q2, q3⟩ := map_obj hr hp hb
    obtain ⟨m1, m2, m3⟩ := alloc_obj (K := K) (o := .it p c [] c) hr (push_alloc w (.mapIter (some b) c #[] c)) hK (fun hle => ⟨b, rho_app hb, (push_alloc w _).new⟩)
    refine ⟨.pointer (some ⟨w.heap.size, 0, none⟩), _, I, _, .inl (by simp [execOp, ho, hmv, run_range_map w t kt et b E c hu q1]), m1, ?_, m2, m3⟩
    exact .ref _ 0 0 0 w.heap.size (by rw [← hr.len]; simp)
/-- The next entry, whichever; or none is left. -/
def anext (L : Store) (x : AV) (N : AV → Store → Prop) : Prop := match x with
  | .ref q wd i f => wd = 0 ∧ i = 0 ∧ f = 0 ∧ match (L[q]?).join with
    | some (.it p since seen last) => match (L[p]?).join with
      | some (.mp c es) => since ≤ last ∧ (∀ x ∈ es, x.1 < since) ∧ (∀ (j : Nat) (x : Nat × AV × AV), es[j]? = some x → x.1 ∉ seen → N (.tup [.bool true, x.2.1, x.2.2]) (L.set q (some (.it p since (seen ++ [x.1]) c)))) ∧
          ((∀ x ∈ es, x.1 ∈ seen) → N (.tup [.bool false]) L)
      | _ => False
    | _ => False
  | _ => False
theorem run_next {P : Program} (w : World) (ty : TypeId) (q m since last clock : Nat) (seen : Array Nat) (E : Array MapEntry) (hq : w.heap[q]? = some (.mapIter (some m) since seen last)) (hm : w.heap[m]? = some (.map E clock)) (hold : ∀ x ∈ E.toList, x.born < since) (hsc : since ≤ last) :
    ((leftOf E seen).size = 0 ∧ (Instr.next (.pointer (some ⟨q, 0, none⟩)) false ty).run P w = .ok (.tuple #[.bool false]) w) ∨
    ∃ e ∈ (leftOf E seen).toList, ∃ w1 : World, (w1 = w ∨ w1 = w.drew) ∧ (Instr.next (.pointer (some ⟨q, 0, none⟩)) false ty).run P w = .ok (.tuple #[.bool true, e.key, e.val]) { w1 with heap := w1.heap.setIfInBounds q (.mapIter (some m) since (seen.push e.born) clock) } := by
  simp only [Instr.next, getObj, Sem.run_bind, Sem.run, hq, hm, Result.andThen, next_test_false seen E since last hold hsc, Bool.false_eq_true, if_false]
  unfold leftOf
  have hmem : ∀ x ∈ (Array.filter (fun e => !seen.contains e.born) E).toList, x.born < since := fun x hx => hold x (by simp at hx ⊢; exact hx.1)
  generalize Array.filter (fun e => !seen.contains e.born) E = L at hmem ⊢
  have e1 : L.filter (fun x => decide (x.born < since)) = L := Array.filter_eq_self.2 (fun x hx => by simpa using hmem x (by simpa using hx))
  have e2 : L.filter (fun x => decide (x.born ≥ since)) = #[] := by
    rw [Array.filter_eq_empty_iff]
    intro x hx
    have := hmem x (by simpa using hx)
    simp
    omega
  simp only [e1, e2, Array.append_empty]
  by_cases h0 : L.size = 0
  · left
    have : L = #[] := Array.eq_empty_of_size_eq_zero h0
    subst this
    refine ⟨rfl, ?_⟩
    simp [choose, Sem.run, Question.forced]
  · right
    have hne : L.isEmpty = false := by simp [Array.isEmpty, h0]
    simp only [hne, Bool.false_eq_true, if_false, Array.empty_append, Array.size_map]
    have hch : ∃ (j : Nat) (w1 : World), j < L.size ∧ (w1 = w ∨ w1 = w.drew) ∧ (choose (Question.mapNext L.size)).run P w = .ok j w1 := by
      by_cases hf : L.size ≤ 1
      · exact ⟨0, w, by omega, .inl rfl, by simp [choose, Sem.run, Question.forced, hf]⟩
      · exact ⟨_, w.drew, Nat.mod_lt _ (by omega), .inr rfl, by
          simp only [choose, Sem.run, Question.forced, decide_eq_true_eq, hf, if_false, Question.cut]
          rfl⟩
    obtain ⟨j, w1, hj, hal, hrun⟩ := hch
    refine ⟨L[j], by simp, w1, hal, ?_⟩
    have hq1 : w1.heap[q]? = some (.mapIter (some m) since seen last) := by rcases hal with rfl | rfl <;> exact hq
    have hset : ∀ (o' : Obj), (setObj q o').run P w1 = .ok () { w1 with heap := w1.heap.setIfInBounds q o' } := fun o' => by
      simp only [setObj, Sem.run, hq1]
    simp only [hrun, Array.getElem?_map, Array.getElem?_eq_getElem hj, Option.map_some, Sem.run_bind, hset, Result.andThen]
    rfl
end Go.Proofs.Ytaieiigfheabfaa.Tw

/-! Calls; regions in the order of their text. -/
namespace Go.Proofs.Ytaieiigfheabfaa.Tw
open Go.RowKit
set_option linter.unusedVariables false
set_option linter.unusedSimpArgs false
mutual
/-- Of no object. -/
def AV.pur : AV → Bool
  | .ref _ _ _ _ => false
  | .row _ _ _ _ => false
  | .map _ => false
  | .imm cs => purL cs
  | .sl _ es => purL es
  | .slt _ es => purL es
  | .agg cs => purL cs
  | .tup cs => purL cs
  | .func _ a b => purL a && purL b
  | .ifc _ v => v.pur
  | .any => true
  | .int _ _ => true
  | .bool _ => true
  | .str _ => true
  | .nil => true
  | .nils => true
  | .nilf => true
  | .raw _ => true
  | .yield _ => false
def purL : List AV → Bool
  | [] => true
  | a :: as => a.pur && purL as
end
theorem purL_mem : ∀ {l : List AV} {a : AV}, purL l = true → a ∈ l → a.pur = true
  | b :: l, a, h, hm => by
    simp only [purL, Bool.and_eq_true] at h
    cases hm with
    | head => exact h.1
    | tail _ hm => exact purL_mem h.2 hm
theorem purL_of : ∀ {l : List AV}, (∀ a ∈ l, a.pur = true) → purL l = true
  | [], _ => rfl
  | a :: l, h => by
    have := purL_of (l := l) (fun b hb => h b (List.mem_cons_of_mem _ hb))
    simp [purL, h a (by simp), this]
theorem pur_cells {e c : AV} (h : e.pur = true) (hc : c ∈ e.cells) : c.pur = true := by
  unfold AV.cells at hc
  split at hc
  · exact purL_mem (by simpa [AV.pur] using h) hc
  · simp at hc; exact hc ▸ h
theorem Rep.pure {w : World} {I : Nat → Prop} {ρ : List Nat} {v : Value} {a : AV} (h : Rep w I ρ v a) (ρ' : List Nat) : a.pur = true → Rep w I ρ' v a := by
  induction h with
  | any v => exact fun _ => .any v
  | int k n => exact fun _ => .int k n
  | bool b => exact fun _ => .bool b
  | str s => exact fun _ => .str s
  | nil => exact fun _ => .nil
  | ref => intro h; simp [AV.pur] at h
  | imm a cs vs hs hI hc hr ih => exact fun h => .imm a cs vs hs hI hc (fun j c hj => ih j c hj (purL_mem (by simpa [AV.pur] using h) (List.mem_of_getElem? hj)))
  | nils => exact fun _ => .nils
  | sl a A n c wd els vs hn hcap ha hw hc hr ih => exact fun h => .sl a A n c wd els vs hn hcap ha hw hc (fun i e j c he hc' => ih i e j c he hc' (pur_cells (purL_mem (by simpa [AV.pur] using h) (List.mem_of_getElem? he)) (List.mem_of_getElem? hc')))
  | slt a A n wd els vs hn ha hw hc hr ih => exact fun h => .slt a A n wd els vs hn ha hw hc (fun i e j c he hc' => ih i e j c he hc' (pur_cells (purL_mem (by simpa [AV.pur] using h) (List.mem_of_getElem? he)) (List.mem_of_getElem? hc')))
  | row => intro h; simp [AV.pur] at h
  | agg vs cs hl hr ih => exact fun h => .agg vs cs hl (fun j v c hv hc => ih j v c hv hc (purL_mem (by simpa [AV.pur] using h) (List.mem_of_getElem? hc)))
  | tup vs cs hl hr ih => exact fun h => .tup vs cs hl (fun j v c hv hc => ih j v c hv hc (purL_mem (by simpa [AV.pur] using h) (List.mem_of_getElem? hc)))
  | func fn fs gs fst cap hl hl' hr hr' ih ih' =>
    intro h
    simp only [AV.pur, Bool.and_eq_true] at h
    exact .func fn fs gs fst cap hl hl' (fun j v c hv hc => ih j v c hv hc (purL_mem h.1 (List.mem_of_getElem? hc))) (fun j v c hv hc => ih' j v c hv hc (purL_mem h.2 (List.mem_of_getElem? hc)))
  | nilf => exact fun _ => .nilf
  | map => intro h; simp [AV.pur] at h
  | ifc t v a h ih => exact fun h => .ifc t v a (ih (by simpa [AV.pur] using h))
  | raw v => exact fun _ => .raw v
  | yield => intro h; simp [AV.pur] at h
/-- How a call ends. -/
inductive AEnd where
  | ret (v : AV)
  | pan (v : AV)
def EndRel (w : World) (I : Nat → Prop) (ρ : List Nat) : Ending → AEnd → Prop
  | .returned v, .ret a => Rep w I ρ v a
  | .panicked ch, .pan a => ∃ v, ch = [{ v, recovered := false }] ∧ Rep w I ρ v a
  | _, _ => False
/-- What a call does, the objects and all. -/
def TCall (P : Program) (f : FuncId) (args : List AV) (L : Store) (R : AEnd → Store → Prop) : Prop :=
  ∀ (w : World) (I : Nat → Prop) (ρ : List Nat) (vs : List Value), Rel w I ρ L → RepL w I ρ vs args → CallsIn (Fen none) 0 P f vs.toArray w fun e w' =>
    ∃ x L' I' ρ', EndRel w' I' ρ' e x ∧ R x L' ∧ Rel w' I' ρ' L' ∧ (∀ (p b : Nat), ρ[p]? = some b → ρ'[p]? = some b) ∧ Ev L.length w I ρ L w' I' ρ' L'
/-- A call of values: what it hands back. -/
def TPure (P : Program) (f : FuncId) (args : List AV) (r : AV) : Prop :=
  ∀ (w : World) (I : Nat → Prop) (vs : List Value), (∀ b, I b → b < w.heap.size) → RepL w I [] vs args → CallsIn (Fen none) 0 P f vs.toArray w fun e w' =>
    ∃ v, e = .returned v ∧ Rep w' (fun b => I b ∨ (w.heap.size ≤ b ∧ b < w'.heap.size)) [] v r ∧ Below w.heap.size w w'
theorem TCall.mono {P : Program} {f : FuncId} {args : List AV} {L : Store} {R R' : AEnd → Store → Prop} (h : TCall P f args L R) (hr : ∀ x L, R x L → R' x L) : TCall P f args L R' := fun w I ρ vs h1 h2 =>
  (h w I ρ vs h1 h2).mono fun e w' ⟨x, L', I', ρ', a, b, c⟩ => ⟨x, L', I', ρ', a, hr _ _ b, c⟩
theorem rel_nil {w : World} {I : Nat → Prop} (h : ∀ b, I b → b < w.heap.size) : Rel w I [] [] := ⟨rfl, fun p o b h => by simp at h, fun p q o o' b h => by simp at h, h⟩
theorem TCall.pure {P : Program} {f : FuncId} {args : List AV} {r : AV} (h : TCall P f args [] fun x L' => x = .ret r ∧ L' = []) : TPure P f args r := fun w I vs hI hv =>
  (h w I [] vs (rel_nil hI) hv).mono fun e w' ⟨x, L', I', ρ', a, ⟨b, c⟩, d, _, ev⟩ => by
    subst b c
    cases e with
    | returned v =>
      refine ⟨v, rfl, ?_, ?_⟩
      · have hρ : ρ' = [] := List.eq_nil_of_length_eq_zero d.len
        subst hρ
        exact Rep.mono ⟨fun _ _ => rfl, fun b hb => by
          rcases ev.imm' b hb with h | h | ⟨p, o, h, _⟩
          · exact .inl h
          · exact .inr ⟨h, d.imm b hb⟩
          · simp at h, fun _ _ h => h, fun b C t h => ⟨C, h, rfl⟩⟩ a
      · exact ⟨ev.os, ev.tape, ev.output, ev.size, fun k hk => ev.keep k hk (fun ⟨p, o, h, _⟩ => by simp at h)⟩
    | panicked c => exact a.elim
    | outgrown => exact a.elim
theorem below_le {w w' : World} {I : Nat → Prop} {ρ : List Nat} {L : Store} (hr : Rel w I ρ L) (hb : Below w.heap.size w w') : Le w I ρ w' (fun b => I b ∨ (w.heap.size ≤ b ∧ b < w'.heap.size)) ρ :=
  ⟨fun b h => hb.block b (hr.imm b h), fun b h => .inl h, fun _ _ h => h, fun b C t h => ⟨C, (hb.block b (Array.getElem?_eq_some_iff.1 h).1).trans h, rfl⟩⟩
theorem below_rel {K : Nat} {w w' : World} {I : Nat → Prop} {ρ : List Nat} {L : Store} (hr : Rel w I ρ L) (hb : Below w.heap.size w w') :
    Rel w' (fun b => I b ∨ (w.heap.size ≤ b ∧ b < w'.heap.size)) ρ L ∧ Ev K w I ρ L w' (fun b => I b ∨ (w.heap.size ≤ b ∧ b < w'.heap.size)) ρ L := by
  have hle := below_le hr hb
  refine ⟨⟨hr.len, fun p o b h1 h2 => ?_, hr.inj, fun b h => ?_⟩, ⟨hb.os, hb.tape, hb.output, hb.size, fun b h _ => hb.block b h, fun b h => .inl h, fun b h => ?_, fun b h => .inl h, hle.size, fun _ _ => rfl⟩⟩
  · obtain ⟨a1, a2, a3⟩ := hr.own p o b h1 h2
    exact ⟨Nat.lt_of_lt_of_le a1 hb.size, fun h => by rcases h with h | h; exact a2 h; omega, a3.mono hle (hb.block b a1)⟩
  · rcases h with h | h
    · exact Nat.lt_of_lt_of_le (hr.imm b h) hb.size
    · exact h.2
  · rcases h with h | h
    · exact .inl h
    · exact .inr (.inl h.1)
/-- A call of values, whatever objects there are. -/
theorem TPure.call {P : Program} {f : FuncId} {args : List AV} {r : AV} {L : Store} {R : AEnd → Store → Prop} (h : TPure P f args r) (hp : purL args = true) (hr : R (.ret r) L) : TCall P f args L R := fun w I ρ vs h1 h2 =>
  (h w I vs h1.imm ⟨h2.1, fun j v c hv hc => (h2.2 j v c hv hc).pure [] (purL_mem hp (List.mem_of_getElem? hc))⟩).mono fun e w' ⟨v, he, hv, hb⟩ => by
    subst he
    obtain ⟨r1, r2⟩ := below_rel (K := L.length) h1 hb
    exact ⟨.ret r, L, _, ρ, Rep.mono ⟨fun _ _ => rfl, fun _ h => h, fun _ _ h => by simp at h, fun b C t h => ⟨C, h, rfl⟩⟩ hv, hr, r1, fun _ _ h => h, r2⟩
/-- A function that may be entered. -/
def enterB (P : Program) (f : FuncId) : Bool :=
  match P.funcs[f]? with
  | some fn => fn.name != "runtime.NumGoroutine" && fn.body.isSome
  | none => false
theorem run_callFunc {P : Program} {f : FuncId} (h : enterB P f = true) (args : Array Value) (w : World) : (callFunc f args).run P w = .ok (.enter f args) w := by
  unfold enterB at h
  cases hf : P.funcs[f]? with
  | none => simp [hf] at h
  | some fn =>
    simp only [hf, Bool.and_eq_true] at h
    have h1 : fn.name ≠ "runtime.NumGoroutine" := by simpa using h.1
    cases hb : fn.body with
    | none => rw [hb] at h; exact absurd h.2 (by simp)
    | some c => simp [callFunc, hf, h1, hb, mark]
def aputf (dst : Option Tmp) (v : AV) (fr : AFr) : AFr :=
  match dst with
  | some d => if d < fr.n then ⟨fr.n, (d, v) :: fr.l⟩ else fr
  | none => fr
theorem put_repF {w : World} {I : Nat → Prop} {ρ : List Nat} {a : Act} {fr : AFr} {v : Value} {x : AV} (h : RepF w I ρ a.tmps fr) (hv : Rep w I ρ v x) (dst : Option Tmp) : RepF w I ρ (a.put dst v).tmps (aputf dst x fr) ∧ (a.put dst v).tmps.size = a.tmps.size := by
  cases dst with
  | none => exact ⟨h, rfl⟩
  | some d =>
    have h1 := h.1
    refine ⟨?_, by simp [Act.put]⟩
    simp only [aputf, Act.put]
    split
    · rename_i hd
      have hd0 : (d : Nat) < a.tmps.size := by rw [h1]; exact hd
      refine ⟨by simp [h1], fun t => ?_⟩
      simp only [aget, agetL]
      split
      · rename_i e
        subst e
        simpa [hd0] using hv
      · rename_i e
        have := h.2 t
        simpa [Array.getElem?_setIfInBounds_ne (show d ≠ t from fun h => e h.symm), aget] using this
    · rename_i hd
      have hd0 : ¬ ((d : Nat) < a.tmps.size) := by rw [h1]; exact hd
      have : a.tmps.setIfInBounds d v = a.tmps := by
        apply Array.ext_getElem?
        intro t
        by_cases e : d = t
        · subst e
          rw [Array.getElem?_eq_none (Nat.le_of_not_lt hd0), Array.getElem?_eq_none (by rw [Array.size_setIfInBounds]; exact Nat.le_of_not_lt hd0)]
        · rw [Array.getElem?_setIfInBounds_ne e]
      rw [this]
      exact h
section
variable {P : Program} {r : Option Nat} {K : Nat}
/-- One operation: what follows a value (N), a panic (E). -/
def OpTw (P : Program) (r : Option Nat) (K : Nat) (o : Oper) (N : AV → Store → Prop) (E : AEx → AFr → Store → Prop) (fr : AFr) (L : Store) : Prop :=
  ∀ (S : Base) (a : Act) (w : World) (I : Nat → Prop) (ρ : List Nat), Rel w I ρ L → RepF w I ρ a.tmps fr → DefOk S w I a.defers → ∀ (nx : Act → World → Prop),
    (∀ v av L' w' I' ρ', N av L' → Rel w' I' ρ' L' → Rep w' I' ρ' v av → Le w I ρ w' I' ρ' → Ev K w I ρ L w' I' ρ' L' → nx (a.put o.dst v) w') →
    o.wpIn (Fen r) 0 P a w nx (Post S K E a w I ρ L)
theorem fen_fn (r : Option Nat) (f : FuncId) : (Fen r).fn f := trivial
theorem opTw_value {o : Oper} {N : AV → Store → Prop} {E : AEx → AFr → Store → Prop} {fr : AFr} {L : Store} (hd : ∀ c, o.op ≠ .defer c) (h : WOk P K L (fun a w => (execOp a.eval o).run P w) fr N) : OpTw P r K o N E fr L := by
  obtain ⟨av, L', hN, h⟩ := h
  intro S a w I ρ h1 h2 h3 nx hnx
  obtain ⟨v, w', I', ρ', hrun, r1, r2, r3, r4⟩ := h a w I ρ h1 h2
  refine ⟨fun f _ => fen_fn r f, ?_⟩
  rw [Oper.semAt_eq _ _ _ hd]
  rcases hrun with hrun | ⟨hrun, rfl⟩
  · simp only at hrun; rw [hrun]; exact hnx v av L' w' I' ρ' hN r1 r2 r3 r4
  · simp only at hrun; rw [hrun]; exact hnx undef av L' w' I' ρ' hN r1 r2 r3 r4
theorem opTw_next {o : Oper} {it : Operand} {N : AV → Store → Prop} {E : AEx → AFr → Store → Prop} {fr : AFr} {L : Store} (ho : o.op = .next it false) (h : anext L (aval fr it) N) : OpTw P r K o N E fr L := by
  obtain ⟨q, p, since, seen, last, c, es, hx, hq, hp, hsl, hold, hN, hN0⟩ : ∃ q p since seen last c es, aval fr it = .ref q 0 0 0 ∧ (L[q]?).join = some (.it p since seen last) ∧ (L[p]?).join = some (.mp c es) ∧ since ≤ last ∧ (∀ x ∈ es, x.1 < since) ∧
      (∀ (j : Nat) (x : Nat × AV × AV), es[j]? = some x → x.1 ∉ seen → N (.tup [.bool true, x.2.1, x.2.2]) (L.set q (some (.it p since (seen ++ [x.1]) c)))) ∧ ((∀ x ∈ es, x.1 ∈ seen) → N (.tup [.bool false]) L) := by
    unfold anext at h
    split at h
    · rename_i hx
      obtain ⟨rfl, rfl, rfl, h⟩ := h
      split at h
      · rename_i hq
        split at h
        · rename_i hp; exact ⟨_, _, _, _, _, _, _, hx, hq, hp, h⟩
        · exact h.elim
      · exact h.elim
    · exact h.elim
  intro S a w I ρ h1 h2 h3 nx hnx
  have hv := aval_rep h2 it
  rw [hx] at hv
  generalize hve : a.eval it = v at hv
  cases hv with
  | ref _ _ _ _ b hb =>
    obtain ⟨_, _, m, hm, hit⟩ := h1.own q _ b (oneat0 hq) hb
    obtain ⟨E', e1, e2, e3⟩ := map_obj h1 hp hm
    refine ⟨fun f _ => fen_fn r f, ?_⟩
    rw [Oper.semAt_eq _ _ _ (by rw [ho]; intro c h; cases h)]
    have at' : ∀ {j : Nat} {e : MapEntry}, E'.toList[j]? = some e → ∃ x, es[j]? = some x := fun {j e} he =>
      ⟨_, List.getElem?_eq_getElem (by rw [← e2]; exact (List.getElem?_eq_some_iff.1 he).1)⟩
    have hborn : ∀ x ∈ E'.toList, x.born < since := fun e he => by
      obtain ⟨j, hj⟩ := List.getElem?_of_mem he
      obtain ⟨x, hxj⟩ := at' hj
      rw [(e3 j x e hxj hj).1]
      exact hold x (List.mem_of_getElem? hxj)
    rcases run_next (P := P) w o.type b m since last c seen.toArray E' hit e1 hborn hsl with ⟨z1, z2⟩ | ⟨e, z1, w1, z2, z3⟩
    · have hrun : (execOp a.eval o).run P w = .ok (.value (.tuple #[.bool false])) w := by simp [execOp, ho, hve, z2]
      simp only [hrun]
      have hall : ∀ x ∈ es, x.1 ∈ seen := fun x hx => by
        obtain ⟨j, hj⟩ := List.getElem?_of_mem hx
        obtain ⟨e, he⟩ : ∃ e, E'.toList[j]? = some e := ⟨_, List.getElem?_eq_getElem (by rw [e2]; exact (List.getElem?_eq_some_iff.1 hj).1)⟩
        rw [← (e3 j x e hj he).1]
        have hl : leftOf E' seen.toArray = #[] := Array.eq_empty_of_size_eq_zero z1
        unfold leftOf at hl
        rw [Array.filter_eq_empty_iff] at hl
        have := hl e (by simpa using List.mem_of_getElem? he)
        simpa using this
      exact hnx _ _ L w I ρ (hN0 hall) h1 (.tup [.bool false] [.bool false] rfl (fun j v c hv hc => by
        cases j with
        | zero => simp at hv hc; subst hv hc; exact .bool _
        | succ j => simp at hv)) (.refl ..) (.refl ..)
    · have hrun : (execOp a.eval o).run P w = .ok (.value (.tuple #[.bool true, e.key, e.val])) { w1 with heap := w1.heap.setIfInBounds b (.mapIter (some m) since (seen.toArray.push e.born) c) } := by simp [execOp, ho, hve, z3]
      simp only [hrun]
      unfold leftOf at z1
      simp at z1
      obtain ⟨z1, z4⟩ := z1
      obtain ⟨j, hj⟩ := List.getElem?_of_mem (by simpa using z1 : e ∈ E'.toList)
      obtain ⟨x, hxj⟩ := at' hj
      obtain ⟨t1, t2, t3⟩ := e3 j x e hxj hj
      have hlt := (h1.own q _ b (oneat0 hq) hb).1
      have hchg : Chg w { w1 with heap := w1.heap.setIfInBounds b (.mapIter (some m) since (seen.toArray.push e.born) c) } b := by
        have := chg_set (o' := .mapIter (some m) since (seen.toArray.push e.born) c) hit (fun C t h => by cases h)
        rcases z2 with rfl | rfl
        · exact this
        · exact ⟨this.os, this.tape, this.output, this.size, this.other, this.cells⟩
      obtain ⟨r1, r2, r3⟩ := write_obj (K := K) (o' := .it p since (seen ++ [x.1]) c) h1 (oneat0 hq) hb hchg (fun hle => ⟨m, hm, by
        rw [t1]
        rcases z2 with rfl | rfl <;> simp [hlt] <;> exact hlt⟩)
      exact hnx _ _ _ _ I ρ (hN j x hxj (by rw [← t1]; simpa using z4)) r1 (.tup [.bool true, e.key, e.val] [.bool true, x.2.1, x.2.2] rfl (fun i v c hv hc => by
        match i, hv, hc with
        | 0, hv, hc => simp at hv hc; subst hv hc; exact .bool _
        | 1, hv, hc => simp at hv hc; subst hv hc; exact t2.mono r2
        | 2, hv, hc => simp at hv hc; subst hv hc; exact t3.mono r2
        | i + 3, hv, hc => simp at hv)) r2 r3
theorem wok_pop {o : Oper} {N : AV → Store → Prop} {fr : AFr} {L : Store} (h : pop P L o (aval fr) fun av => N av L) : WOk P K L (fun a w => (execOp a.eval o).run P w) fr N := by
  obtain ⟨av, hN, h⟩ := pop_ok h
  refine ⟨av, L, hN, fun a w I ρ h1 h2 => ?_⟩
  obtain ⟨v, hrun, hv⟩ := h a w I ρ h1.own h2
  exact ⟨v, w, I, ρ, .inl hrun, h1, hv, .refl .., .refl ..⟩
theorem wok_buildSlice {o : Oper} {t : TypeId} {len : Nat} {parts : Array (Nat × Operand)} {N : AV → Store → Prop} {fr : AFr} {L : Store} (ho : o.op = .buildSlice t len parts) (h : abuildSlice P K L t len (parts.toList.map fun p => (p.1, aval fr p.2)) N) : WOk P K L (fun a w => (execOp a.eval o).run P w) fr N := by
  obtain ⟨els, hN, h⟩ := abuildSlice_ok ho h
  refine ⟨_, L, hN, fun a w I ρ h1 h2 => ?_⟩
  obtain ⟨v, w', hrun, r1, r2, r3, r4⟩ := h a w I ρ h1 h2
  exact ⟨v, w', _, ρ, .inl hrun, r1, r2, r3, r4⟩
/-- What a call's end leads to. -/
def callQ (N : AV → Store → Prop) (E : AEx → AFr → Store → Prop) (fr : AFr) : AEnd → Store → Prop
  | .ret v, L => N v L
  | .pan v, L => E (.pan v) fr L
def aputs : List (Tmp × AV) → AFr → AFr
  | [], fr => fr
  | (d, v) :: l, fr => aputs l (aputf (some d) v fr)
theorem puts_repF {w : World} {I : Nat → Prop} {ρ : List Nat} : ∀ (ps : List Tmp) (vs : List Value) (xs : List AV) (tmps : Array Value) (fr : AFr), RepL w I ρ vs xs → RepF w I ρ tmps fr →
    RepF w I ρ ((ps.zip vs).foldl (fun tmps x => tmps.setIfInBounds x.1 x.2) tmps) (aputs (ps.zip xs) fr)
  | [], _, _, _, _, _, h => h
  | _ :: _, [], [], _, _, _, h => h
  | _ :: _, [], _ :: _, _, _, hl, _ => by have := hl.1; simp at this
  | _ :: _, _ :: _, [], _, _, hl, _ => by have := hl.1; simp at this
  | p :: ps, v :: vs, x :: xs, tmps, fr, hl, h => by
    have h1 := (put_repF (a := { tmps := tmps, defers := [] }) h (hl.2 0 v x rfl rfl) (some p)).1
    exact puts_repF ps vs xs _ _ ⟨by have := hl.1; simpa using this, fun j v c hv hc => hl.2 (j + 1) v c (by simpa using hv) (by simpa using hc)⟩ h1
theorem put_loop {K : Nat} {w : World} {I : Nat → Prop} {ρ : List Nat} {L : Store} {p b : Nat} {st : LoopState} {pend : Option Code} {n : Nat} {l : List (Nat × AV)} {ps : Array Tmp} {as bd : Code} (hr : Rel w I ρ L) (hp : L[p]? = some (some (.loop st pend n l ps as bd))) (hb : ρ[p]? = some b)
    (st' : LoopState) (pend' : Option Code) : ∃ r : Loop, w.heap[b]? = some (.loop r) ∧ r.state = st ∧ r.pending = pend ∧ r.params = ps ∧ r.assign = as ∧ r.body = bd ∧ RepF w I ρ r.tmps ⟨n, l⟩ ∧
      Rel (w.putObj b (.loop { r with state := st', pending := pend' })) I ρ (L.set p (some (.loop st' pend' n l ps as bd))) ∧ Le w I ρ (w.putObj b (.loop { r with state := st', pending := pend' })) I ρ ∧
      Ev K w I ρ L (w.putObj b (.loop { r with state := st', pending := pend' })) I ρ (L.set p (some (.loop st' pend' n l ps as bd))) := by
  obtain ⟨a1, a2, fn, tmps, D, h1, h2, h3⟩ := hr.own p _ b hp hb
  exact ⟨_, h1, rfl, rfl, rfl, rfl, rfl, ⟨h2, h3⟩, write_obj hr hp hb (chg_loop h1) (fun hle => ⟨fn, tmps, D, World.putObj_heap_same a1, h2, fun t => (h3 t).mono hle⟩)⟩
/-- How a round may end. -/
def roundQ (p : Nat) (R : AEnd → Store → Prop) : AEx → AFr → Store → Prop := fun e _ L =>
  match (L[p]?).join with
  | some (.loop .busy _ n l ps as bd) => match e with
    | .normal => R (.ret (.bool true)) (L.set p (some (.loop .ready none n l ps as bd)))
    | .ret => R (.ret (.bool false)) (L.set p (some (.loop .done (some .ret) n l ps as bd)))
    | .exit id => R (.ret (.bool false)) (L.set p (some (.loop .done (some (.exit id)) n l ps as bd)))
    | .goto t => R (.ret (.bool false)) (L.set p (some (.loop .done (some (.goto t)) n l ps as bd)))
    | .pan _ => False
  | _ => False
def assQ (P : Program) (k K p : Nat) (body : Code) (R : AEnd → Store → Prop) : AEx → AFr → Store → Prop := fun e fr L =>
  match e with
  | .normal => match (L[p]?).join with
    | some (.loop .ready pend n l ps as bd) => Tw P (some k) K body (roundQ p R) fr (L.set p (some (.loop .busy pend n l ps as bd)))
    | _ => False
  | _ => False
/-- A round of the loop whose record lies at p. -/
def ayield (P : Program) (L : Store) (p : Nat) (args : List AV) (R : AEnd → Store → Prop) : Prop :=
  match (L[p]?).join with
  | some (.loop .ready none n l ps assign body) => ps.size = args.length ∧ ∀ k, Tw P (some k) L.length assign (assQ P k L.length p body R) (aputs (ps.toList.zip args) ⟨n, l⟩) L
  | _ => False
def acallv (P : Program) (L : Store) (f : AV) (args : List AV) (R : AEnd → Store → Prop) : Prop :=
  match f with
  | .func (.func g) first captured => enterB P g = true ∧ TCall P g (first ++ args ++ captured) L R
  | .yield p => ayield P L p args R
  | _ => False
theorem oneat {L : Store} {p : Nat} {o : AO} (h : (L[p]?).join = some o) : L[p]? = some (some o) := by
  cases hl : L[p]? with
  | none => rw [hl] at h; cases h
  | some x => rw [hl] at h; simp at h; rw [h]
theorem ev_le {w : World} {I : Nat → Prop} {ρ : List Nat} {L : Store} {w' : World} {I' : Nat → Prop} {ρ' : List Nat} {L' : Store} (ev : Ev L.length w I ρ L w' I' ρ' L') (h1 : Rel w I ρ L) : Le w I ρ w' I' ρ' :=
  ev.le h1 (fun p b hp => by rw [ev.rho p (by have := (List.getElem?_eq_some_iff.1 hp).1; rw [h1.len] at this; exact this)]; exact hp)
theorem opTw_yield {o : Oper} {f : Operand} {args : Array Operand} {ats : Array TypeId} {N : AV → Store → Prop} {E : AEx → AFr → Store → Prop} {fr : AFr} {L : Store} {p : Nat} (ho : o.op = .call ⟨.value f, args, ats⟩) (hK : K ≤ L.length) (hfv : aval fr f = .yield p)
    (h : ayield P L p (args.toList.map (aval fr)) (callQ N E fr)) : OpTw P r K o N E fr L := by
  unfold ayield at h
  split at h
  case h_2 => exact h.elim
  rename_i n l ps assign body hL
  obtain ⟨hps, h⟩ := h
  intro S a w I ρ h1 h2 h3 nx hnx
  have hLp := oneat hL
  have hpl : p < L.length := (List.getElem?_eq_some_iff.1 hLp).1
  have hf := aval_rep h2 f
  rw [hfv] at hf
  generalize hve : a.eval f = fv at hf
  cases hf with
  | yield _ b hb =>
    obtain ⟨rec, q1, q2, q3, q4, q5, q6, q7, _⟩ := put_loop (K := K) h1 hLp hb .ready none
    have hargs : RepL w I ρ (args.toList.map a.eval) (args.toList.map (aval fr)) := by
      refine ⟨by simp, fun j v c hv hc => ?_⟩
      rw [List.getElem?_map] at hv hc
      cases hx : args.toList[j]? with
      | none => rw [hx] at hv; cases hv
      | some x => rw [hx] at hv hc; cases hv; cases hc; exact aval_rep h2 x
    obtain ⟨tmps', htmps⟩ : ∃ t, t = ((rec.params.zip (args.map a.eval)).foldl (fun tmps (t, a) => tmps.setIfInBounds t a) rec.tmps) := ⟨_, rfl⟩
    have hrun : (o.semAt (Fen r).round a.eval).run P w = .ok (.round b rec.fn tmps' assign body) w := by
      rw [Oper.semAt_eq _ _ _ (by rw [ho]; intro c h; cases h)]
      have hy := run_yield (P := P) (args := args.map a.eval) q1 (by rw [q4]; simp at hps ⊢; exact hps.symm)
      rw [q5, q6, ← htmps] at hy
      simp only [execOp, ho, resolve, Sem.run_bind, Deferred.ofValue, hve, Sem.run_pure, Result.andThen_ok, invoke]
      simpa using hy
    have htm : RepF w I ρ tmps' (aputs (ps.toList.zip (args.toList.map (aval fr))) ⟨n, l⟩) := by
      have := puts_repF (w := w) (I := I) (ρ := ρ) ps.toList (args.toList.map a.eval) _ rec.tmps ⟨n, l⟩ hargs q7
      rw [htmps, ← Array.foldl_toList, Array.toList_zip, q4]
      simpa using this
    refine ⟨fun f _ => fen_fn r f, ?_⟩
    rw [hrun]
    refine ⟨(fun h => by cases h), roundIn_of_wpIn trivial ?_⟩
    refine wpIn_mono (h b ⟨w.heap.size, []⟩ { tmps := tmps', defers := [] } w I ρ h1 htm (.nil (Nat.le_refl _))) ?_
    rintro e a1 w1 ⟨x, fr1, L1, I1, ρ1, hx, hq, r1, r2, r3, ev, hs⟩
    cases x <;> try exact hq.elim
    cases e <;> try exact hx.elim
    simp only [assQ] at hq
    split at hq
    case h_2 => exact hq.elim
    rename_i pend1 n1 l1 ps1 as1 bd1 hL1
    have hb1 : ρ1[p]? = some b := by rw [ev.rho p hpl]; exact hb
    obtain ⟨rec1, u1, u2, u3, u4, u5, u6, u7, u8, u9, u10⟩ := put_loop (K := L.length) r1 (oneat hL1) hb1 .busy pend1
    refine ⟨_, run_beginRound u1 u2, ?_⟩
    subst u3
    have r2' := r2.mono u9
    refine wpIn_mono (hq ⟨w.heap.size, []⟩ a1 _ I1 ρ1 u8 r2' (r3.mono u9 u10.size)) ?_
    rintro e3 a3 w3 ⟨x3, fr3, L3, I3, ρ3, hx3, hq3, s1, s2, s3, ev3, hs3⟩
    simp only [roundQ] at hq3
    split at hq3
    case h_2 => exact hq3.elim
    rename_i pend3 n3 l3 ps3 as3 bd3 hL3
    have hb3 : ρ3[p]? = some b := by rw [ev3.rho p hpl]; exact hb1
    have evA := (ev.trans u10).trans ev3
    have fin : ∀ (jump : Option Code), callQ N E fr (.ret (.bool jump.isNone)) (L3.set p (some (.loop (if jump.isNone then .ready else .done) jump n3 l3 ps3 as3 bd3))) →
        ∃ v w4, (Instr.endRound b jump).run P w3 = .ok v w4 ∧ nx (a.put o.dst v) w4 := fun jump hN => by
      obtain ⟨rec3, t1, t2, t3, t4, t5, t6, t7, t8, t9, t10⟩ := put_loop (K := L.length) s1 (oneat hL3) hb3 (if jump.isNone then .ready else .done) jump
      have evB := evA.trans t10
      exact ⟨_, _, run_endRound jump t1, hnx _ _ _ _ _ _ hN t8 (.bool _) (ev_le evB h1) { evB with rho := fun p hp => evB.rho p (Nat.lt_of_lt_of_le hp hK) }⟩
    cases e3 with
    | normal => cases x3 <;> first | exact hx3.elim | exact fin none hq3
    | ret => cases x3 <;> first | exact hx3.elim | exact fin (some .ret) hq3
    | exit id => cases x3 <;> first | exact hx3.elim | (cases hx3; exact fin (some (.exit _)) hq3)
    | goto id => cases x3 <;> first | exact hx3.elim | (cases hx3; exact fin (some (.goto _)) hq3)
    | panic c => cases x3 <;> first | exact hx3.elim | exact hq3.elim
    | outgrown => cases x3 <;> exact hx3.elim
theorem opTw_call {o : Oper} {f : Operand} {args : Array Operand} {ats : Array TypeId} {N : AV → Store → Prop} {E : AEx → AFr → Store → Prop} {fr : AFr} {L : Store} (ho : o.op = .call ⟨.value f, args, ats⟩) (hK : K ≤ L.length)
    (h : acallv P L (aval fr f) (args.toList.map (aval fr)) (callQ N E fr)) : OpTw P r K o N E fr L := by
  unfold acallv at h
  split at h
  case h_2 => rename_i p hfv; exact opTw_yield ho hK hfv h
  case h_3 => exact h.elim
  rename_i g first captured hfv
  obtain ⟨hen, h⟩ := h
  intro S a w I ρ h1 h2 h3 nx hnx
  have hf := aval_rep h2 f
  rw [hfv] at hf
  generalize hve : a.eval f = fv at hf
  cases hf with
  | func _ fs gs _ _ hl hl' hrf hrg =>
    have hargs : RepL w I ρ (fs ++ args.toList.map a.eval ++ gs) (first ++ args.toList.map (aval fr) ++ captured) := by
      refine ⟨by simp [hl, hl'], fun j v c hv hc => ?_⟩
      by_cases q1 : j < fs.length
      · rw [List.append_assoc, List.getElem?_append_left q1] at hv
        rw [List.append_assoc, List.getElem?_append_left (by omega)] at hc
        exact hrf j v c hv hc
      · rw [List.append_assoc, List.getElem?_append_right (by omega)] at hv
        rw [List.append_assoc, List.getElem?_append_right (by omega)] at hc
        rw [hl] at hv
        by_cases q2 : j - first.length < (args.toList.map a.eval).length
        · rw [List.getElem?_append_left q2] at hv
          rw [List.getElem?_append_left (by simpa using q2)] at hc
          rw [List.getElem?_map] at hv hc
          cases hx : args.toList[j - first.length]? with
          | none => rw [hx] at hv; cases hv
          | some x => rw [hx] at hv hc; cases hv; cases hc; exact aval_rep h2 x
        · rw [List.getElem?_append_right (by omega)] at hv
          rw [List.getElem?_append_right (by simp at q2 ⊢; omega)] at hc
          simp only [List.length_map] at hv hc
          exact hrg _ v c hv hc
    have hcall := h w I ρ _ h1 hargs
    have hrun : (o.semAt (Fen r).round a.eval).run P w = .ok (.enter g (fs ++ args.toList.map a.eval ++ gs).toArray) w := by
      rw [Oper.semAt_eq _ _ _ (by rw [ho]; intro c h; cases h)]
      have : fs.toArray ++ args.map a.eval ++ gs.toArray = (fs ++ args.toList.map a.eval ++ gs).toArray := by
        apply Array.ext'
        simp
      simp only [execOp, ho, resolve, Sem.run_bind, Deferred.ofValue, hve, Sem.run_pure, Result.andThen_ok, invoke, this]
      exact run_callFunc hen _ w
    refine ⟨fun f _ => fen_fn r f, ?_⟩
    rw [hrun]
    refine ⟨(fun h => by cases h), ?_⟩
    refine CallsIn.mono (R := fun e w' => ∃ x L' I' ρ', EndRel w' I' ρ' e x ∧ callQ N E fr x L' ∧ Rel w' I' ρ' L' ∧ (∀ (p b : Nat), ρ[p]? = some b → ρ'[p]? = some b) ∧ Ev L.length w I ρ L w' I' ρ' L') hcall ?_
    rintro e w' ⟨x, L', I', ρ', hx, hq, r1, hρ, ev⟩
    have hle := ev.le h1 hρ
    have ev' : Ev K w I ρ L w' I' ρ' L' := { ev with rho := fun p hp => ev.rho p (Nat.lt_of_lt_of_le hp hK) }
    cases e with
    | returned v =>
      cases x with
      | ret av => exact hnx v av L' w' I' ρ' hq r1 hx hle ev'
      | pan av => exact hx.elim
    | panicked ch =>
      cases x with
      | ret av => exact hx.elim
      | pan av => exact ⟨.pan av, fr, L', I', ρ', hx, hq, r1, h2.mono hle, h3.mono hle ev'.size, ev', rfl⟩
    | outgrown => exact hx.elim
/-- Is a row that may be empty nil? -/
def anil (u : TypeId → Option TypeDesc) (op : BinOp) (t : TypeId) (els : List AV) (N : AV → Prop) : Prop := nilT 1 (u t) = true ∧ match op with
  | .eql => (els = [] → N (.bool true)) ∧ N (.bool false)
  | .neq => (els = [] → N (.bool false)) ∧ N (.bool true)
  | _ => False
theorem opTw_nil {o : Oper} {op : BinOp} {t pt : TypeId} {x y : Operand} {wd : Nat} {els : List AV} {N : AV → Store → Prop} {E : AEx → AFr → Store → Prop} {fr : AFr} {L : Store} (ho : o.op = .binOp op t x y pt) (hx : aval fr x = .sl wd els) (hy : aval fr y = .nils) (h : anil P.underlying op t els fun v => N v L) : OpTw P r K o N E fr L := by
  obtain ⟨hT, h⟩ := h
  obtain ⟨d, hd, hk⟩ := nilT_some hT
  intro S a w I ρ h1 h2 h3 nx hnx
  have hvx := aval_rep h2 x
  have hvy := aval_rep h2 y
  rw [hx] at hvx
  rw [hy] at hvy
  generalize hxe : a.eval x = vx at hvx
  generalize hye : a.eval y = vy at hvy
  refine ⟨fun f _ => fen_fn r f, ?_⟩
  rw [Oper.semAt_eq _ _ _ (by rw [ho]; intro c h; cases h)]
  cases d <;> simp [nilK] at hk
  rename_i e
  cases hvy
  have fin : ∀ b : Bool, N (.bool b) L → (execOp a.eval o).run P w = .ok (.value (.bool b)) w → Oper.uponIn (Fen r) 0 P o a nx (Post S K E a w I ρ L) ((execOp a.eval o).run P w) := by
    intro b hN hrun
    rw [hrun]
    exact hnx _ _ L w I ρ hN h1 (.bool _) (.refl ..) (.refl ..)
  cases hvx with
  | sl ad A n c _ _ vs hn hcap ha hw hc hr =>
    cases op <;> first | exact h.elim | skip
    all_goals
      cases ad with
      | none =>
        have he : els = [] := by
          rcases ha with ha | ⟨ha, _⟩
          · exact ha
          · cases ha
        have hq := run_equal_of (b := true) (x := .slice none n c) (y := .slice none 0 0) w hd rfl
        refine fin _ (h.1 he) ?_
        simp [execOp, ho, hxe, hye, eqGuard, binOp, hq]
      | some ad =>
        have hq := run_equal_of (b := false) (x := .slice (some ad) n c) (y := .slice none 0 0) w hd rfl
        refine fin _ h.2 ?_
        simp [execOp, ho, hxe, hye, eqGuard, binOp, hq]
/-- One operation, as text. -/
def anili (u : TypeId → Option TypeDesc) (op : BinOp) (t : TypeId) (N : AV → Prop) : Prop := nilT 2 (u t) = true ∧ match op with
  | .eql => N (.bool true)
  | .neq => N (.bool false)
  | _ => False
theorem opTw_nili {o : Oper} {op : BinOp} {t pt : TypeId} {x : Operand} {N : AV → Store → Prop} {E : AEx → AFr → Store → Prop} {fr : AFr} {L : Store} (ho : o.op = .binOp op t x (.const .nilIface) pt) (hx : aval fr x = .raw .nilIface)
    (h : anili P.underlying op t fun v => N v L) : OpTw P r K o N E fr L := by
  obtain ⟨hT, h⟩ := h
  obtain ⟨d, hd, hk⟩ := nilT_some hT
  intro S a w I ρ h1 h2 h3 nx hnx
  have hvx := aval_rep h2 x
  rw [hx] at hvx
  generalize hxe : a.eval x = vx at hvx
  refine ⟨fun f _ => fen_fn r f, ?_⟩
  rw [Oper.semAt_eq _ _ _ (by rw [ho]; intro c h; cases h)]
  cases d <;> simp [nilK] at hk
  have fin : ∀ b : Bool, N (.bool b) L → (execOp a.eval o).run P w = .ok (.value (.bool b)) w → Oper.uponIn (Fen r) 0 P o a nx (Post S K E a w I ρ L) ((execOp a.eval o).run P w) := by
    intro b hN hrun
    rw [hrun]
    exact hnx _ _ L w I ρ hN h1 (.bool _) (.refl ..) (.refl ..)
  cases hvx
  have hq := run_equal_of (b := true) (x := .nilIface) (y := .nilIface) w hd rfl
  cases op <;> first | exact h.elim | skip
  all_goals
    refine fin _ h ?_
    have hye : a.eval (.const .nilIface) = .nilIface := rfl
    simp [execOp, ho, hxe, hye, eqGuard, binOp, hq]
theorem opTw_panic {o : Oper} {x : Operand} {t : TypeId} {u : AV} {N : AV → Store → Prop} {E : AEx → AFr → Store → Prop} {fr : AFr} {L : Store} (ho : o.op = .panic x) (hx : aval fr x = .ifc t u) (h : E (.pan (.ifc t u)) fr L) : OpTw P r K o N E fr L := by
  intro S a w I ρ h1 h2 h3 nx hnx
  have hv := aval_rep h2 x
  rw [hx] at hv
  generalize hve : a.eval x = v at hv
  refine ⟨fun f _ => fen_fn r f, ?_⟩
  rw [Oper.semAt_eq _ _ _ (by rw [ho]; intro c h; cases h)]
  cases hv with
  | ifc t' v' a' hv =>
    have hrun : (execOp a.eval o).run P w = .halt (.panic (.iface t v')) w := by
      simp [execOp, ho, hve, Instr.panic, goPanic]
      try rfl
    simp only [hrun]
    exact ⟨.pan (.ifc t u), fr, L, I, ρ, ⟨_, rfl, .ifc _ _ _ hv⟩, h, h1, h2, h3, .refl .., rfl⟩
def rop (P : Program) (K : Nat) (o : Oper) (fr : AFr) (L : Store) (N : AV → Store → Prop) (E : AEx → AFr → Store → Prop) : Prop :=
  match o.op with
  | .box t x => abox K L (aval fr x) N
  | .alloc t => aalloc P K L t N
  | .store t ad x => astore P L t (aval fr ad) (aval fr x) N
  | .buildSlice t len parts => abuildSlice P K L t len (parts.toList.map fun p => (p.1, aval fr p.2)) N
  | .makeMap t r => match r with
    | none => amakeMap K L N
    | some _ => False
  | .makeSlice t l c => amakeB P L t (aval fr l) (aval fr c) N ∨ amakeR P K L t (aval fr l) (aval fr c) N
  | .mapUpdate t m k x => amapUpdate P.underlying L t (aval fr m) (aval fr k) (aval fr x) N ∨ amapUpdateS P P.underlying L t (aval fr m) (aval fr k) (aval fr x) N
  | .range t x => arange P.underlying K L t (aval fr x) N
  | .next x s => s = false ∧ anext L (aval fr x) N
  | .panic x => match aval fr x with
    | .ifc t v => E (.pan (.ifc t v)) fr L
    | _ => False
  | .binOp op t x y _ => match aval fr x with
    | .sl _ els => match aval fr y with
      | .nils => anil P.underlying op t els fun v => N v L
      | _ => pop P L o (aval fr) fun av => N av L
    | .raw .nilIface => match y with
      | .const .nilIface => anili P.underlying op t fun v => N v L
      | _ => pop P L o (aval fr) fun av => N av L
    | _ => pop P L o (aval fr) fun av => N av L
  | .call c => match c.callee with
    | .builtin .delete => match c.args.toList, c.argTypes.toList with
      | [m, k], [t, t'] => adelete P.underlying L t (aval fr m) (aval fr k) N
      | _, _ => False
    | .value f => K ≤ L.length ∧ acallv P L (aval fr f) (c.args.toList.map (aval fr)) (callQ N E fr)
    | .builtin .append => match c.args.toList, c.argTypes.toList with
      | [s, x], [t, t'] => (t = t' ∧ aappend P K L t (aval fr s) (aval fr x) N) ∨ aappendS P K L t t' (aval fr s) (aval fr x) N
      | _, _ => False
    | _ => pop P L o (aval fr) fun av => N av L
  | _ => pop P L o (aval fr) fun av => N av L
theorem pop_defer {o : Oper} {g : Operand → AV} {L : Store} {N : AV → Prop} (h : pop P L o g N) : ∀ c, o.op ≠ .defer c := by
  intro c hc
  unfold pop at h
  rw [hc] at h
  exact h
theorem rop_ok {o : Oper} {fr : AFr} {L : Store} {N : AV → Store → Prop} {E : AEx → AFr → Store → Prop} (h : rop P K o fr L N E) : OpTw P r K o N E fr L := by
  unfold rop at h
  split at h
  · rename_i t x ho; exact opTw_value (by rw [ho]; intro c h; cases h) (abox_ok ho h)
  · rename_i t ho; exact opTw_value (by rw [ho]; intro c h; cases h) (aalloc_ok ho h)
  · rename_i t ad x ho; exact opTw_value (by rw [ho]; intro c h; cases h) (astore_ok ho h)
  · rename_i t len parts ho; exact opTw_value (by rw [ho]; intro c h; cases h) (wok_buildSlice ho h)
  · rename_i t r' ho
    split at h
    · exact opTw_value (by rw [ho]; intro c h; cases h) (amakeMap_ok ho h)
    · exact h.elim
  · rename_i t l c ho
    rcases h with h | h
    · exact opTw_value (by rw [ho]; intro c h; cases h) (amakeB_ok ho h)
    · exact opTw_value (by rw [ho]; intro c h; cases h) (amakeR_ok ho h)
  · rename_i t m k x ho; exact opTw_value (by rw [ho]; intro c h; cases h) (h.elim (amapUpdate_ok ho) (amapUpdateS_ok ho))
  · rename_i t x ho; exact opTw_value (by rw [ho]; intro c h; cases h) (arange_ok ho h)
  · rename_i x s ho
    obtain ⟨rfl, h⟩ := h
    exact opTw_next ho h
  · rename_i x ho
    split at h
    · rename_i t v hx; exact opTw_panic ho hx h
    · exact h.elim
  · rename_i op t x y pt ho
    split at h
    · rename_i hx
      split at h
      · rename_i hy; exact opTw_nil ho hx hy h
      · exact opTw_value (pop_defer h) (wok_pop h)
    · rename_i hx
      split at h
      · exact opTw_nili ho hx h
      · exact opTw_value (pop_defer h) (wok_pop h)
    · exact opTw_value (pop_defer h) (wok_pop h)
  · rename_i c ho
    obtain ⟨callee, args, ats⟩ := c
    split at h
    · rename_i hc
      simp only at hc
      subst hc
      split at h
      · rename_i m k t t' hx ht
        simp only at hx ht
        have e1 : args = #[m, k] := by rw [← Array.toArray_toList (xs := args), hx]
        have e2 : ats = #[t, t'] := by rw [← Array.toArray_toList (xs := ats), ht]
        subst e1 e2
        exact opTw_value (by rw [ho]; intro c h; cases h) (adelete_ok ho h)
      · exact h.elim
    · rename_i f hc
      simp only at hc
      subst hc
      exact opTw_call ho h.1 h.2
    · rename_i hc
      simp only at hc
      subst hc
      split at h
      · rename_i s x t t' hx ht
        simp only at hx ht
        have e1 : args = #[s, x] := by rw [← Array.toArray_toList (xs := args), hx]
        have e2 : ats = #[t, t'] := by rw [← Array.toArray_toList (xs := ats), ht]
        subst e1 e2
        rcases h with ⟨rfl, h⟩ | h
        · exact opTw_value (by rw [ho]; intro c h; cases h) (aappend_ok ho h)
        · exact opTw_value (by rw [ho]; intro c h; cases h) (aappendS_ok ho h)
      · exact h.elim
    · exact opTw_value (pop_defer h) (wok_pop h)
  · exact opTw_value (pop_defer h) (wok_pop h)
/-- A guard, as the frame tells it: is the operation carried out? -/
def aguard (ops : Array Oper) (o : Oper) (fr : AFr) (yes no : Prop) : Prop :=
  match o.guard with
  | none => yes
  | some (j, want) => match (ops[j]?).bind (·.dst) with
    | some d => d < fr.n ∧ match aget fr d with
      | .bool b => (b = want → yes) ∧ (b ≠ want → no)
      | .tup [] => no
      | _ => False
    | none => False
theorem aguard_ok {w : World} {I : Nat → Prop} {ρ : List Nat} {ops : Array Oper} {o : Oper} {fr : AFr} {yes no : Prop} {a : Act} (h : aguard ops o fr yes no) (hf : RepF w I ρ a.tmps fr) :
    (Region.wanted o (yielded ops a.tmps) = true ∧ yes) ∨ (Region.wanted o (yielded ops a.tmps) = false ∧ no) := by
  unfold aguard at h
  unfold Region.wanted
  split at h
  · rename_i hg
    simp only [hg]
    exact .inl ⟨trivial, h⟩
  · rename_i j want hg
    simp only [hg]
    split at h
    · rename_i d hd
      obtain ⟨hlt, h⟩ := h
      have hlt' : d < a.tmps.size := by rw [hf.1]; exact hlt
      have hr := hf.2 d
      have hy : yielded ops a.tmps j = match a.tmps.getD d undef with | .bool b => some b | _ => none := by
        unfold yielded
        simp only [hd, Option.bind_some, Array.getElem?_eq_getElem hlt', Array.getD_eq_getD_getElem?, Option.getD_some]
        split <;> simp_all
      split at h
      · rename_i b hb
        rw [hb] at hr
        rw [hy, hr.bool_inv]
        by_cases e : b = want
        · exact .inl ⟨by simp [e], h.1 e⟩
        · exact .inr ⟨by simpa using e, h.2 e⟩
      · rename_i hb
        rw [hb] at hr
        obtain ⟨vs, hvs, _⟩ := hr.tup_inv
        rw [hy, hvs]
        exact .inr ⟨by simp, h⟩
      · exact h.elim
    · exact h.elim
/-- The operations of a region, in the order of the text. -/
def rops (P : Program) (K : Nat) (ops : Array Oper) (Q : AEx → AFr → Store → Prop) : List Oper → AFr → Store → Prop
  | [], fr, L => Q .normal fr L
  | o :: rest, fr, L => aguard ops o fr (rop P K o fr L (fun av L' => rops P K ops Q rest (aputf o.dst av fr) L') Q) (rops P K ops Q rest (aputf o.dst (.tup []) fr) L)
theorem undef_rep (w : World) (I : Nat → Prop) (ρ : List Nat) : Rep w I ρ undef (.tup []) := .tup [] [] rfl (fun _ _ _ h => by simp at h)
theorem rops_ok {ops : Array Oper} {Q : AEx → AFr → Store → Prop} : ∀ (rest : List Oper) (i : Nat) (hi : ∀ j, rest[j]? = ops[i + j]?) (fr : AFr) (L : Store), rops P K ops Q rest fr L →
    ∀ (S : Base) (a0 : Act) (w0 : World) (I0 : Nat → Prop) (ρ0 : List Nat) (L0 : Store) (a : Act) (w : World) (I : Nat → Prop) (ρ : List Nat), Rel w I ρ L → RepF w I ρ a.tmps fr → DefOk S w I a.defers → Ev K w0 I0 ρ0 L0 w I ρ L → a.tmps.size = a0.tmps.size →
      wpOpsIn (Fen r) 0 P ops (Post S K Q a0 w0 I0 ρ0 L0) ((List.range' i rest.length)) a w
  | [], i, hi, fr, L, h, S, a0, w0, I0, ρ0, L0, a, w, I, ρ, h1, h2, h3, ev, hs => ⟨.normal, fr, L, I, ρ, trivial, h, h1, h2, h3, ev, hs⟩
  | o :: rest, i, hi, fr, L, h, S, a0, w0, I0, ρ0, L0, a, w, I, ρ, h1, h2, h3, ev, hs => by
    have ho : ops[i]? = some o := by have := hi 0; simpa using this.symm
    have hi' : ∀ j, rest[j]? = ops[i + 1 + j]? := fun j => by have := hi (j + 1); rw [show i + 1 + j = i + (j + 1) from by omega]; simpa using this
    simp only [rops] at h
    rw [List.length_cons, List.range'_succ]
    simp only [wpOpsIn, ho]
    rcases aguard_ok h h2 with ⟨hw, h⟩ | ⟨hw, h⟩
    · simp only [hw, if_true]
      have hop := rop_ok (r := r) h S a w I ρ h1 h2 h3 (wpOpsIn (Fen r) 0 P ops (Post S K Q a0 w0 I0 ρ0 L0) (List.range' (i + 1) rest.length)) (fun v av L' w' I' ρ' hN r1 r2 r3 r4 => by
        obtain ⟨hp1, hp2⟩ := put_repF (h2.mono r3) r2 o.dst
        refine rops_ok rest (i + 1) hi' _ L' hN S a0 w0 I0 ρ0 L0 _ w' I' ρ' r1 hp1 ?_ (ev.trans r4) (hp2.trans hs)
        have : (a.put o.dst v).defers = a.defers := by cases o.dst <;> rfl
        rw [this]
        exact h3.mono r3 r4.size)
      refine ⟨hop.1, ?_⟩
      have hop2 := hop.2
      generalize (o.semAt (Fen r).round a.eval).run P w = res at hop2 ⊢
      cases res with
      | ok x w' =>
        cases x <;> simp only [Oper.uponIn] at hop2 ⊢ <;> first
          | exact hop2
          | exact ⟨hop2.1, hop2.2.mono fun e w'' he => by cases e <;> first | exact he | exact Post.behind ev hs he | exact he.elim (fun a1 h => h.elim fun w1 h => ⟨a1, w1, Post.behind ev hs h⟩)⟩
      | halt x w' => cases x <;> simp only [Oper.uponIn] at hop2 ⊢ <;> first | exact Post.behind ev hs hop2 | exact hop2
    · simp only [hw, Bool.false_eq_true, if_false]
      refine ⟨fun f _ => fen_fn r f, ?_⟩
      obtain ⟨hp1, hp2⟩ := put_repF h2 (undef_rep w I ρ) o.dst
      refine rops_ok rest (i + 1) hi' _ L h S a0 w0 I0 ρ0 L0 _ w I ρ h1 hp1 ?_ ev (hp2.trans hs)
      have : (a.put o.dst undef).defers = a.defers := by cases o.dst <;> rfl
      rw [this]
      exact h3
theorem Tw.region {id : Nat} {ops : Array Oper} {Q : AEx → AFr → Store → Prop} {fr : AFr} {L : Store} (h : rops P K ops Q ops.toList fr L) : Tw P r K (.region id ops false) Q fr L := fun S a w I ρ h1 h2 h3 => by
  refine wpIn_region ?_
  have := rops_ok (r := r) ops.toList 0 (fun j => by simp) fr L h S a w I ρ L a w I ρ h1 h2 h3 (.refl ..) rfl
  simpa [List.range_eq_range'] using this
end
end Go.Proofs.Ytaieiigfheabfaa.Tw

/-! Functions, from their bodies. -/
namespace Go.Proofs.Ytaieiigfheabfaa.Tw
open Go.RowKit
set_option linter.unusedVariables false
set_option linter.unusedSimpArgs false
/-- What a function hands back. -/
def ares (P : Program) (fr : AFr) (L : Store) : List ResultVar → (List AV → Prop) → Prop
  | [], K => K []
  | .tmp t :: rest, K => ares P fr L rest fun vs => K (aget fr t :: vs)
  | .cell a t :: rest, K => aloadAt P L t (aget fr a) fun v => ares P fr L rest fun vs => K (v :: vs)
def aone : List AV → AV
  | [v] => v
  | vs => .tup vs
def resOf (tmps : Array Value) : ResultVar → Sem Value
  | .tmp t => pure (tmps.getD t undef)
  | .cell a t => do loadVar t (← asAddr (tmps.getD a undef))
def packRes (vs : Array Value) : Value := if h : vs.size = 1 then vs[0] else .tuple vs
theorem results_eq (fn : Func) (tmps : Array Value) : results fn tmps = (do let vs ← fn.results.mapM (resOf tmps); pure (packRes vs)) := by
  unfold results
  refine congrArg (fun g => (Array.mapM g fn.results) >>= fun vs => pure (packRes vs)) ?_
  funext x
  cases x <;> rfl
theorem ares_ok {P : Program} {fr : AFr} {L : Store} : ∀ (rs : List ResultVar) (K : List AV → Prop), ares P fr L rs K → ∃ avs, K avs ∧ ∀ (w : World) (I : Nat → Prop) (ρ : List Nat) (tmps : Array Value), Rel w I ρ L → RepF w I ρ tmps fr →
    ∃ vs : List Value, (rs.mapM (resOf tmps)).run P w = .ok vs w ∧ RepL w I ρ vs avs
  | [], K, h => ⟨[], h, fun w I ρ tmps _ _ => ⟨[], by rw [List.mapM_nil]; rfl, rfl, fun _ _ _ h => by simp at h⟩⟩
  | .tmp t :: rest, K, h => by
    obtain ⟨avs, hK, hr⟩ := ares_ok rest _ h
    refine ⟨_, hK, fun w I ρ tmps h1 h2 => ?_⟩
    obtain ⟨vs, hv, hl, hrep⟩ := hr w I ρ tmps h1 h2
    refine ⟨tmps.getD t undef :: vs, ?_, by simp [hl], fun j v c hv' hc => ?_⟩
    · rw [List.mapM_cons]
      simp only [resOf, Sem.run_bind, Sem.run_pure, Result.andThen_ok]
      rw [hv]
      rfl
    · cases j with
      | zero => simp only [List.getElem?_cons_zero, Option.some.injEq] at hv' hc; subst hv' hc; exact h2.2 t
      | succ j => exact hrep j v c (by simpa using hv') (by simpa using hc)
  | .cell a t :: rest, K, h => by
    obtain ⟨av, hK1, hl1⟩ := aloadAt_ok h
    obtain ⟨avs, hK, hr⟩ := ares_ok rest _ hK1
    refine ⟨_, hK, fun w I ρ tmps h1 h2 => ?_⟩
    obtain ⟨vs, hv, hl, hrep⟩ := hr w I ρ tmps h1 h2
    have hra := h2.2 a
    obtain ⟨u, hu, hur⟩ := hl1 w I ρ _ h1.own hra
    refine ⟨u :: vs, ?_, by simp [hl], fun j v c hv' hc => ?_⟩
    · rw [List.mapM_cons]
      have hu' : (do loadVar t (← asAddr (tmps.getD a undef)) : Sem Value).run P w = .ok u w := by
        generalize tmps.getD a undef = p at hu ⊢
        cases p <;> first | (simp [Instr.loadAt, Instr.sureAddr] at hu; done) | skip
        rename_i ad
        cases ad with
        | none => simp [Instr.loadAt, Instr.sureAddr] at hu
        | some ad => simpa [Instr.loadAt, Instr.sureAddr, asAddr] using hu
      simp only [Sem.run_bind] at hu'
      simp only [resOf, Sem.run_bind]
      rw [hu']
      simp only [Result.andThen_ok]
      rw [hv]
      rfl
    · cases j with
      | zero => simp at hv' hc; subst hv' hc; exact hur
      | succ j => exact hrep j v c (by simpa using hv') (by simpa using hc)
theorem run_results {P : Program} {fn : Func} {fr : AFr} {L : Store} {K : List AV → Prop} (h : ares P fr L fn.results.toList K) : ∃ avs, K avs ∧ ∀ (w : World) (I : Nat → Prop) (ρ : List Nat) (tmps : Array Value), Rel w I ρ L → RepF w I ρ tmps fr →
    ∃ v, (results fn tmps).run P w = .ok v w ∧ Rep w I ρ v (aone avs) := by
  obtain ⟨avs, hK, hr⟩ := ares_ok _ _ h
  refine ⟨avs, hK, fun w I ρ tmps h1 h2 => ?_⟩
  obtain ⟨vs, hv, hl, hrep⟩ := hr w I ρ tmps h1 h2
  have hm : (fn.results.mapM (resOf tmps)).run P w = .ok vs.toArray w := by
    rw [← Array.toArray_toList (xs := fn.results), List.mapM_toArray, Sem.run_map, hv]
    rfl
  refine ⟨if h : vs.toArray.size = 1 then vs.toArray[0] else .tuple vs.toArray, ?_, ?_⟩
  · rw [results_eq, Sem.run_bind, hm]
    rfl
  · cases vs with
    | nil => cases avs with
      | nil => exact .tup [] [] rfl (fun _ _ _ h => by simp at h)
      | cons a as => simp at hl
    | cons v vs => cases avs with
      | nil => simp at hl
      | cons a as =>
        cases vs with
        | nil => cases as with
          | nil => exact hrep 0 v a rfl rfl
          | cons b bs => simp at hl
        | cons u us => cases as with
          | nil => simp at hl
          | cons b bs =>
            simp only [aone]
            rw [dif_neg (by simp)]
            exact .tup _ _ hl hrep
/-- A result, and the objects, said otherwise. -/
def VSV (K : Nat) (v : AV) (L : Store) (v' : AV) (L' : Store) : Prop := VS K ⟨1, [(0, v)]⟩ L ⟨1, [(0, v')]⟩ L'
theorem VSV.refl (K : Nat) (v : AV) (L : Store) : VSV K v L v L := VS.refl K _ L
theorem vsv_use {K : Nat} {v v' : AV} {L L' : Store} (h : VSV K v L v' L') {w : World} {I : Nat → Prop} {ρ : List Nat} {u : Value} (hr : Rel w I ρ L) (hv : Rep w I ρ u v) :
    ∃ I' ρ', Rel w I' ρ' L' ∧ Rep w I' ρ' u v' ∧ Ev K w I ρ L w I' ρ' L' := by
  obtain ⟨I', ρ', a1, a2, a3, a4, a5, a6⟩ := h w I ρ #[u] hr ⟨rfl, fun t => by
    simp only [aget, agetL]
    split
    · rename_i e; subst e; exact hv
    · exact .any _⟩
  have := a6.2 0
  exact ⟨I', ρ', a5, by simpa [aget, agetL] using this, VS.ev a1 a2 a3 a4⟩
def bodyQ (P : Program) (fn : Func) (K : Nat) (R : AEnd → Store → Prop) : AEx → AFr → Store → Prop
  | .normal, fr, L => ares P fr L fn.results.toList fun vs => ∃ v' L', VSV K (aone vs) L v' L' ∧ R (.ret v') L'
  | .ret, fr, L => ares P fr L fn.results.toList fun vs => ∃ v' L', VSV K (aone vs) L v' L' ∧ R (.ret v') L'
  | .pan v, fr, L => ∃ v' L', VSV K v L v' L' ∧ R (.pan v') L'
  | _, _, _ => False
/-- The frame in which a function begins. -/
def frame0 (n : Nat) (args : List AV) : AFr := ⟨n, (args.zipIdx).map fun x => (x.2, x.1)⟩
theorem agetL_zip : ∀ (l : List AV) (k t : Nat), agetL ((l.zipIdx k).map fun x => (x.2, x.1)) t = if t < k then .any else (l[t - k]?).getD .any
  | [], k, t => by simp [agetL]
  | a :: l, k, t => by
    rw [List.zipIdx_cons, List.map_cons, agetL, agetL_zip l (k + 1) t]
    by_cases h : t = k
    · subst h; simp
    · rw [if_neg h]
      by_cases h2 : t < k
      · rw [if_pos (by omega), if_pos h2]
      · rw [if_neg (by omega), if_neg h2, show t - k = (t - (k + 1)) + 1 from by omega]
        simp
theorem frame0_rep {w : World} {I : Nat → Prop} {ρ : List Nat} {vs : List Value} {args : List AV} {n : Nat} (h : RepL w I ρ vs args) (hn : args.length ≤ n) : RepF w I ρ (vs.toArray ++ Array.replicate (n - vs.toArray.size) undef) (frame0 n args) := by
  refine ⟨by simp [frame0, h.1]; omega, fun t => ?_⟩
  simp only [aget, frame0]
  rw [agetL_zip, if_neg (by omega), Nat.sub_zero]
  cases hc : args[t]? with
  | none => exact .any _
  | some c =>
    have hlt := (List.getElem?_eq_some_iff.1 hc).1
    have hv : vs[t]? = some (vs[t]'(by have := h.1; omega)) := List.getElem?_eq_getElem (by have := h.1; omega)
    have : (vs.toArray ++ Array.replicate (n - vs.toArray.size) undef).getD t undef = vs[t]'(by have := h.1; omega) := by
      rw [Array.getD_eq_getD_getElem?, Array.getElem?_append_left (by simp [h.1]; exact hlt)]
      simp [hv]
    rw [this]
    exact h.2 t _ c hv hc
theorem leaves_marks {P : Program} {fn : Func} {tmps : Array Value} {R : Ending → World → Prop} {u : FrameMode} (hu : u ≠ .run) : ∀ (Ds : List Nat) (w : World), Ds.Nodup → (∀ D ∈ Ds, w.heap[D]? = some (.deferred (some []))) →
    LeavesIn (Fen none) 0 P fn tmps R [] u (shutAll Ds w) → LeavesInM (Fen none) 0 P fn tmps R (Ds.map markOf) u w
  | [], w, _, _, h => h
  | D :: Ds, w, hn, hm, h => by
    have hn' := List.nodup_cons.1 hn
    exact ⟨hu, .inl ⟨D, _, rfl, run_takeDeferred (hm D (by simp)), leaves_marks hu Ds _ hn'.2 (fun E hE => by
      rw [World.putObj_heap_other (fun e : E = D => hn'.1 (e ▸ hE))]; exact hm E (List.mem_cons_of_mem _ hE)) h⟩⟩
theorem TCall.of_tw {P : Program} {f : FuncId} {fn : Func} {c : Code} {args : List AV} {L : Store} {R : AEnd → Store → Prop} (hf : P.funcs[f]? = some fn) (hb : fn.body = some c) (hn : args.length ≤ fn.ntmps)
    (h : Tw P none L.length c (bodyQ P fn L.length R) (frame0 fn.ntmps args) L) : TCall P f args L R := fun w I ρ vs h1 h2 => by
  refine callsIn_of_wp_marks hf hb trivial ?_
  refine wpIn_mono (h ⟨w.heap.size, []⟩ { tmps := vs.toArray ++ Array.replicate (fn.ntmps - vs.toArray.size) undef, defers := [] } w I ρ h1 (frame0_rep h2 hn) (.nil (Nat.le_refl _))) ?_
  rintro e a' w' ⟨x, fr', L', I', ρ', hx, hq, r1, r2, r3, ev, hs⟩
  obtain ⟨hS, Ds, hds, hnd, hDs⟩ := r3
  replace hds : a'.defers = Ds.map markOf := hds.trans (List.append_nil _)
  obtain ⟨sh, shk⟩ := shutAll_spec Ds w' hnd (fun D hD => (hDs D hD).2.2)
  have evS : Ev L.length w I ρ L (shutAll Ds w') I' ρ' L' :=
    ⟨sh.os.trans ev.os, sh.tape.trans ev.tape, sh.output.trans ev.output, by rw [sh.size]; exact ev.size,
     fun b hb hnb => (shk b (fun hD => by have : w.heap.size ≤ b := (hDs b hD).1; omega)).trans (ev.keep b hb hnb), ev.imm, ev.imm', ev.own,
     fun b C t h => let ⟨C1, q1, q2⟩ := ev.cells b C t h; ⟨C1, sh.keep b _ q1 (by simp), q2⟩, ev.rho⟩
  have r1S := r1.shut sh
  have r2S : RepF (shutAll Ds w') I' ρ' a'.tmps fr' := ⟨r2.1, fun t => (r2.2 t).shut sh⟩
  have fin : ∀ (y : AEnd) (L2 : Store) (I2 : Nat → Prop) (ρ2 : List Nat) (en : Ending), EndRel (shutAll Ds w') I2 ρ2 en y → R y L2 → Rel (shutAll Ds w') I2 ρ2 L2 → Ev L.length (shutAll Ds w') I' ρ' L' (shutAll Ds w') I2 ρ2 L2 → ∃ x L' I' ρ', EndRel (shutAll Ds w') I' ρ' en x ∧ R x L' ∧ Rel (shutAll Ds w') I' ρ' L' ∧ (∀ (p b : Nat), ρ[p]? = some b → ρ'[p]? = some b) ∧ Ev L.length w I ρ L (shutAll Ds w') I' ρ' L' := by
    intro y L2 I2 ρ2 en q1 q2 q3 q4
    have ev2 := evS.trans q4
    refine ⟨y, L2, I2, ρ2, q1, q2, q3, fun p b hp => ?_, ev2⟩
    rw [ev2.rho p (by have := (List.getElem?_eq_some_iff.1 hp).1; rw [h1.len] at this; exact this)]
    exact hp
  have done : ares P fr' L' fn.results.toList (fun vs => ∃ v' L'', VSV L.length (aone vs) L' v' L'' ∧ R (.ret v') L'') → LeavesInM (Fen none) 0 P fn a'.tmps (fun en w'' => ∃ x L' I' ρ', EndRel w'' I' ρ' en x ∧ R x L' ∧ Rel w'' I' ρ' L' ∧ (∀ (p b : Nat), ρ[p]? = some b → ρ'[p]? = some b) ∧ Ev L.length w I ρ L w'' I' ρ' L') a'.defers .returning w' := by
    intro hq
    rw [hds]
    refine leaves_marks (by simp) Ds w' hnd (fun D hD => (hDs D hD).2.2) ?_
    obtain ⟨avs, ⟨v', L2, hvs, hR⟩, hres⟩ := run_results hq
    obtain ⟨v, hv, hrep⟩ := hres (shutAll Ds w') I' ρ' a'.tmps r1S r2S
    obtain ⟨I2, ρ2, s1, s2, s3⟩ := vsv_use hvs r1S hrep
    exact ⟨v, hv, fin (.ret v') L2 I2 ρ2 (.returned v) s2 hR s1 s3⟩
  cases e with
  | normal => cases x <;> first | exact hx.elim | exact done hq
  | ret => cases x <;> first | exact hx.elim | exact done hq
  | exit id => cases x <;> first | exact hx.elim | exact hq.elim
  | goto id => cases x <;> first | exact hx.elim | exact hq.elim
  | panic ch =>
    cases x with
    | pan av =>
      obtain ⟨v, rfl, hrep⟩ := hx
      obtain ⟨v', L2, hvs, hR⟩ := hq
      obtain ⟨I2, ρ2, s1, s2, s3⟩ := vsv_use hvs r1S (hrep.shut sh)
      show LeavesInM _ _ _ _ _ _ a'.defers _ _
      rw [hds]
      exact leaves_marks (by simp) Ds w' hnd (fun D hD => (hDs D hD).2.2) (fin (.pan v') L2 I2 ρ2 (.panicked [{ v, recovered := false }]) ⟨v, rfl, s2⟩ hR s1 s3)
    | _ => exact hx.elim
  | outgrown => cases x <;> exact hx.elim
end Go.Proofs.Ytaieiigfheabfaa.Tw

/-! What is known, said otherwise. -/
namespace Go.Proofs.Ytaieiigfheabfaa.Tw
open Go.RowKit
set_option linter.unusedVariables false
set_option linter.unusedSimpArgs false
mutual
/-- Only objects ahead of place n. -/
def AV.upto (n : Nat) : AV → Bool
  | .ref p _ _ _ => decide (p < n)
  | .row p _ _ _ => decide (p < n)
  | .map p => decide (p < n)
  | .yield p => decide (p < n)
  | .imm cs => uptoL n cs
  | .sl _ es => uptoL n es
  | .slt _ es => uptoL n es
  | .agg cs => uptoL n cs
  | .tup cs => uptoL n cs
  | .func _ a b => uptoL n a && uptoL n b
  | .ifc _ v => v.upto n
  | .any => true
  | .int _ _ => true
  | .bool _ => true
  | .str _ => true
  | .nil => true
  | .nils => true
  | .nilf => true
  | .raw _ => true
def uptoL (n : Nat) : List AV → Bool
  | [] => true
  | a :: as => a.upto n && uptoL n as
end
mutual
theorem AV.upto_pur (n : Nat) : ∀ a : AV, a.pur = true → a.upto n = true
  | .ref .., h => by simp [AV.pur] at h
  | .row .., h => by simp [AV.pur] at h
  | .map _, h => by simp [AV.pur] at h
  | .yield _, h => by simp [AV.pur] at h
  | .imm cs, h => by simp only [AV.pur, AV.upto] at h ⊢; exact uptoL_pur n cs h
  | .sl _ cs, h => by simp only [AV.pur, AV.upto] at h ⊢; exact uptoL_pur n cs h
  | .slt _ cs, h => by simp only [AV.pur, AV.upto] at h ⊢; exact uptoL_pur n cs h
  | .agg cs, h => by simp only [AV.pur, AV.upto] at h ⊢; exact uptoL_pur n cs h
  | .tup cs, h => by simp only [AV.pur, AV.upto] at h ⊢; exact uptoL_pur n cs h
  | .func _ a b, h => by
    simp only [AV.pur, AV.upto, Bool.and_eq_true] at h ⊢
    exact ⟨uptoL_pur n a h.1, uptoL_pur n b h.2⟩
  | .ifc _ v, h => by simp only [AV.pur, AV.upto] at h ⊢; exact AV.upto_pur n v h
  | .any, _ => rfl
  | .int _ _, _ => rfl
  | .bool _, _ => rfl
  | .str _, _ => rfl
  | .nil, _ => rfl
  | .nils, _ => rfl
  | .nilf, _ => rfl
  | .raw _, _ => rfl
theorem uptoL_pur (n : Nat) : ∀ l : List AV, purL l = true → uptoL n l = true
  | [], _ => rfl
  | a :: l, h => by
    simp only [purL, uptoL, Bool.and_eq_true] at h ⊢
    exact ⟨AV.upto_pur n a h.1, uptoL_pur n l h.2⟩
end
theorem uptoL_mem {n : Nat} : ∀ {l : List AV} {a : AV}, uptoL n l = true → a ∈ l → a.upto n = true
  | b :: l, a, h, hm => by
    simp only [uptoL, Bool.and_eq_true] at h
    cases hm with
    | head => exact h.1
    | tail _ hm => exact uptoL_mem h.2 hm
theorem upto_cells {n : Nat} {e c : AV} (h : e.upto n = true) (hc : c ∈ e.cells) : c.upto n = true := by
  unfold AV.cells at hc
  split at hc
  · exact uptoL_mem (by simpa [AV.upto] using h) hc
  · simp at hc; exact hc ▸ h
theorem take_get {ρ : List Nat} {n p b : Nat} (h : ρ[p]? = some b) (hp : p < n) : (ρ.take n)[p]? = some b := by rw [List.getElem?_take, if_pos hp]; exact h
theorem Rep.take {w : World} {I : Nat → Prop} {ρ : List Nat} {v : Value} {a : AV} (h : Rep w I ρ v a) (n : Nat) : a.upto n = true → Rep w I (ρ.take n) v a := by
  induction h with
  | any v => exact fun _ => .any v
  | int k n => exact fun _ => .int k n
  | bool b => exact fun _ => .bool b
  | str s => exact fun _ => .str s
  | nil => exact fun _ => .nil
  | ref p wd i f b h => exact fun hb => .ref p wd i f b (take_get h (by simpa [AV.upto] using hb))
  | imm a cs vs hs hI hc hr ih => exact fun h => .imm a cs vs hs hI hc (fun j c hj => ih j c hj (uptoL_mem (by simpa [AV.upto] using h) (List.mem_of_getElem? hj)))
  | nils => exact fun _ => .nils
  | sl a A n c wd els vs hn hcap ha hw hc hr ih => exact fun h => .sl a A n c wd els vs hn hcap ha hw hc (fun i e j c he hc' => ih i e j c he hc' (upto_cells (uptoL_mem (by simpa [AV.upto] using h) (List.mem_of_getElem? he)) (List.mem_of_getElem? hc')))
  | slt a A n wd els vs hn ha hw hc hr ih => exact fun h => .slt a A n wd els vs hn ha hw hc (fun i e j c he hc' => ih i e j c he hc' (upto_cells (uptoL_mem (by simpa [AV.upto] using h) (List.mem_of_getElem? he)) (List.mem_of_getElem? hc')))
  | row p wd off n b c C t h hn hb hC => exact fun hb' => .row p wd off n b c C t (take_get h (by simpa [AV.upto] using hb')) hn hb hC
  | agg vs cs hl hr ih => exact fun h => .agg vs cs hl (fun j v c hv hc => ih j v c hv hc (uptoL_mem (by simpa [AV.upto] using h) (List.mem_of_getElem? hc)))
  | tup vs cs hl hr ih => exact fun h => .tup vs cs hl (fun j v c hv hc => ih j v c hv hc (uptoL_mem (by simpa [AV.upto] using h) (List.mem_of_getElem? hc)))
  | func fn fs gs fst cap hl hl' hr hr' ih ih' =>
    intro h
    simp only [AV.upto, Bool.and_eq_true] at h
    exact .func fn fs gs fst cap hl hl' (fun j v c hv hc => ih j v c hv hc (uptoL_mem h.1 (List.mem_of_getElem? hc))) (fun j v c hv hc => ih' j v c hv hc (uptoL_mem h.2 (List.mem_of_getElem? hc)))
  | nilf => exact fun _ => .nilf
  | map p b h => exact fun hb => .map p b (take_get h (by simpa [AV.upto] using hb))
  | yield p b h => exact fun hb => .yield p b (take_get h (by simpa [AV.upto] using hb))
  | ifc t v a h ih => exact fun h => .ifc t v a (ih (by simpa [AV.upto] using h))
  | raw v => exact fun _ => .raw v
def AO.upto (n : Nat) : AO → Bool
  | .arr _ els => uptoL n els
  | .box _ e => e.upto n
  | .mp _ es => es.all fun x => x.2.1.upto n && x.2.2.upto n
  | .it p _ _ _ => decide (p < n)
  | .loop _ _ _ l _ _ _ => l.all fun x => x.2.upto n
theorem agetL_upto {n : Nat} : ∀ {l : List (Nat × AV)}, (l.all fun x => x.2.upto n) = true → ∀ t, (agetL l t).upto n = true
  | [], _, t => rfl
  | (d, v) :: l, h, t => by
    simp only [List.all_cons, Bool.and_eq_true] at h
    simp only [agetL]
    split
    · exact h.1
    · exact agetL_upto h.2 t
theorem ObjRel.take {w : World} {I : Nat → Prop} {ρ : List Nat} {b : Nat} {o : AO} (h : ObjRel w I ρ b o) (n : Nat) (hb : o.upto n = true) : ObjRel w I (ρ.take n) b o := by
  cases o with
  | arr wd els =>
    obtain ⟨C, t, h1, h2, h3⟩ := h
    exact ⟨C, t, h1, h2, fun i e he => ⟨(h3 i e he).1, fun j c hc => let ⟨v, h4, h5⟩ := (h3 i e he).2 j c hc; ⟨v, h4, h5.take n (upto_cells (uptoL_mem hb (List.mem_of_getElem? he)) (List.mem_of_getElem? hc))⟩⟩⟩
  | box wd e =>
    obtain ⟨C, t, h1, h2, h3⟩ := h
    refine ⟨C, t, h1, h2, fun i e' he => ⟨(h3 i e' he).1, fun j c hc => ?_⟩⟩
    obtain ⟨v, h4, h5⟩ := (h3 i e' he).2 j c hc
    have : e' = e := by
      have := (List.getElem?_eq_some_iff.1 he).1
      simp at this
      subst this
      simpa using he.symm
    subst this
    exact ⟨v, h4, h5.take n (upto_cells hb (List.mem_of_getElem? hc))⟩
  | mp c es =>
    obtain ⟨E, h1, h2, h3⟩ := h
    refine ⟨E, h1, h2, fun i x e hx he => ?_⟩
    have := List.all_eq_true.1 hb x (List.mem_of_getElem? hx)
    simp only [Bool.and_eq_true] at this
    exact ⟨(h3 i x e hx he).1, (h3 i x e hx he).2.1.take n this.1, (h3 i x e hx he).2.2.take n this.2⟩
  | it p since seen last =>
    obtain ⟨m, h1, h2⟩ := h
    exact ⟨m, take_get h1 (by simpa [AO.upto] using hb), h2⟩
  | loop st pend m l ps as bd =>
    obtain ⟨fn, tmps, D, h1, h2, h3⟩ := h
    exact ⟨fn, tmps, D, h1, h2, fun t => (h3 t).take n (agetL_upto hb t)⟩
def oUpto (n : Nat) : Option AO → Bool
  | some o => o.upto n
  | none => true
theorem Owned.take {ρ : List Nat} {L : Store} {n b : Nat} (h : Owned (ρ.take n) (L.take n) b) : Owned ρ L b := by
  obtain ⟨p, o, h1, h2⟩ := h
  rw [List.getElem?_take] at h1 h2
  split at h1
  · rename_i hp
    rw [if_pos hp] at h2
    exact ⟨p, o, h1, h2⟩
  · cases h1
theorem VS.trunc {K : Nat} {fr : AFr} {L : Store} (n : Nat) (hK : K ≤ n) (hf : fr.l.all (fun x => x.2.upto n) = true) (hL : (L.take n).all (oUpto n) = true) : VS K fr L fr (L.take n) := fun w I ρ tmps h1 h2 => by
  refine ⟨I, ρ.take n, fun _ h => h, fun _ h => .inl h, fun _ h => h.take, fun p hp => by rw [List.getElem?_take, if_pos (by omega)], ⟨by simp [h1.len], fun p o b h3 h4 => ?_, fun p q o o' b h3 h4 h5 h6 => ?_, h1.imm⟩, h2.1, fun t => ?_⟩
  · have hm := List.all_eq_true.1 hL _ (List.mem_of_getElem? h3)
    rw [List.getElem?_take] at h3 h4
    split at h3
    · rename_i hp
      rw [if_pos hp] at h4
      obtain ⟨a1, a2, a3⟩ := h1.own p o b h3 h4
      exact ⟨a1, a2, a3.take n hm⟩
    · cases h3
  · rw [List.getElem?_take] at h3 h4 h5 h6
    split at h3
    · split at h4
      · rename_i hp hq
        rw [if_pos hp] at h5
        rw [if_pos hq] at h6
        exact h1.inj p q o o' b h3 h4 h5 h6
      · cases h4
    · cases h3
  · have key : ∀ (l : List (Nat × AV)) (v : Value), l.all (fun x => x.2.upto n) = true → Rep w I ρ v (agetL l t) → Rep w I (ρ.take n) v (agetL l t) := by
      intro l v
      induction l with
      | nil => exact fun _ _ => .any _
      | cons x l ih =>
        obtain ⟨d, u⟩ := x
        intro hl
        simp only [List.all_cons, Bool.and_eq_true] at hl
        simp only [agetL]
        split
        · exact fun h => h.take n hl.1
        · exact ih hl.2
    exact key fr.l _ hf (h2.2 t)
/-- One abstract value says no more than another. -/
def Sub (a b : AV) : Prop := ∀ w I ρ v, Rep w I ρ v a → Rep w I ρ v b
theorem Sub.refl (a : AV) : Sub a a := fun _ _ _ _ h => h
theorem Sub.any (a : AV) : Sub a .any := fun _ _ _ v _ => .any v
theorem Sub.nils (w : Nat) : Sub .nils (.sl w []) := fun _ _ _ v h => by
  cases h
  exact .sl none default 0 0 w [] (fun _ _ => undef) rfl (Nat.le_refl _) (.inl rfl) (fun _ h => by cases h) (fun i _ hi => by simp at hi) (fun i _ _ _ hi => by simp at hi)
theorem Sub.nils_slt (w : Nat) : Sub .nils (.slt w []) := fun _ _ _ v h => by
  cases h
  exact .slt none default 0 w [] (fun _ _ => undef) rfl (.inl rfl) (fun _ h => by cases h) (fun i _ hi => by simp at hi) (fun i _ _ _ hi => by simp at hi)
theorem Sub.slt (w : Nat) (els : List AV) : Sub (.slt w els) (.sl w els) := fun _ _ _ v h => by
  cases h with
  | slt a A n _ _ vs hn ha hw hc hr => exact .sl a A n n w els vs hn (Nat.le_refl _) ha hw hc hr
theorem Sub.agg {cs ds : List AV} (hl : cs.length = ds.length) (h : ∀ (j : Nat) (c d : AV), cs[j]? = some c → ds[j]? = some d → Sub c d) : Sub (.agg cs) (.agg ds) := fun w I ρ v hv => by
  cases hv with
  | agg vs _ hl' hr =>
    exact .agg vs ds (hl'.trans hl) fun j u d hu hd => by
      have hlt := (List.getElem?_eq_some_iff.1 hd).1
      have hc : cs[j]? = some (cs[j]'(by omega)) := List.getElem?_eq_getElem (by omega)
      exact h j _ d hc hd w I ρ u (hr j u _ hu hc)
theorem Sub.tup {cs ds : List AV} (hl : cs.length = ds.length) (h : ∀ (j : Nat) (c d : AV), cs[j]? = some c → ds[j]? = some d → Sub c d) : Sub (.tup cs) (.tup ds) := fun w I ρ v hv => by
  cases hv with
  | tup vs _ hl' hr =>
    exact .tup vs ds (hl'.trans hl) fun j u d hu hd => by
      have hlt := (List.getElem?_eq_some_iff.1 hd).1
      have hc : cs[j]? = some (cs[j]'(by omega)) := List.getElem?_eq_getElem (by omega)
      exact h j _ d hc hd w I ρ u (hr j u _ hu hc)
/-- Frames, entry by entry. -/
inductive SubL (fr : AFr) : List (Nat × AV) → Prop
  | nil : SubL fr []
  | cons {t : Nat} {v : AV} {l : List (Nat × AV)} (h : Sub (aget fr t) v) (k : SubL fr l) : SubL fr ((t, v) :: l)
theorem SubL.get {fr : AFr} {l : List (Nat × AV)} (h : SubL fr l) (t : Nat) : Sub (aget fr t) (agetL l t) := by
  induction h with
  | nil => exact Sub.any _
  | cons h k ih =>
    simp only [agetL]
    split
    · rename_i e; subst e; exact h
    · exact ih
theorem VS.sub {K : Nat} {fr : AFr} {L : Store} {l : List (Nat × AV)} (h : SubL fr l) : VS K fr L ⟨fr.n, l⟩ L := fun w I ρ tmps h1 h2 =>
  ⟨I, ρ, fun _ h => h, fun _ h => .inl h, fun _ h => h, fun _ _ => rfl, h1, h2.1, fun t => h.get t w I ρ _ (h2.2 t)⟩
/-- An object is dropped. -/
theorem VS.drop {K : Nat} {fr : AFr} {L : Store} (p : Nat) : VS K fr L fr (L.set p none) := fun w I ρ tmps h1 h2 =>
  ⟨I, ρ, fun _ h => h, fun _ h => .inl h, fun _ h => h.of_kill, fun _ _ => rfl, h1.kill p, h2⟩
/-- A row of ours becomes one that is never written. -/
inductive FSub (p wd : Nat) (els : List AV) : AV → AV → Prop
  | sub {a b : AV} (h : Sub a b) : FSub p wd els a b
  | row (off n : Nat) (h : off + n ≤ els.length) : FSub p wd els (.row p wd off n) (.sl wd ((els.drop off).take n))
  | agg (cs ds : List AV) (hl : cs.length = ds.length) (h : ∀ (j : Nat) (c d : AV), cs[j]? = some c → ds[j]? = some d → FSub p wd els c d) : FSub p wd els (.agg cs) (.agg ds)
  | tup (cs ds : List AV) (hl : cs.length = ds.length) (h : ∀ (j : Nat) (c d : AV), cs[j]? = some c → ds[j]? = some d → FSub p wd els c d) : FSub p wd els (.tup cs) (.tup ds)
theorem FSub.whole {p wd n : Nat} {els : List AV} (h : n = els.length) : FSub p wd els (.row p wd 0 n) (.sl wd els) := by
  have := FSub.row (p := p) (wd := wd) (els := els) 0 n (by omega)
  simpa [h] using this
theorem FSub.rep {p wd b : Nat} {els : List AV} {w : World} {I : Nat → Prop} {ρ : List Nat} (hb : ρ[p]? = some b) (hI : I b) (ho : ObjRel w I ρ b (.arr wd els)) {a c : AV} (h : FSub p wd els a c) : ∀ {v : Value}, Rep w I ρ v a → Rep w I ρ v c := by
  induction h with
  | sub h => exact fun hv => h w I ρ _ hv
  | row off n hle =>
    intro v hv
    cases hv with
    | row _ _ _ _ b' c C t hb' hn hB hC =>
      rw [hb] at hb'
      cases hb'
      obtain ⟨C', t', q1, q2, q3⟩ := ho
      rw [hB] at q1
      cases q1
      have hidx : ∀ (i : Nat) (e : AV), ((els.drop off).take n)[i]? = some e → els[off + i]? = some e := by
        intro i e he
        rw [List.getElem?_take] at he
        split at he
        · rwa [List.getElem?_drop] at he
        · cases he
      refine Rep.sl (some ⟨b, off * wd, none⟩) ⟨b, off * wd, none⟩ n c wd _ (fun i j => (C[(off + i) * wd + j]?).getD undef) (by simp; omega) hn (.inr ⟨rfl, rfl, hI⟩) (fun e he => ?_) (fun i j hi hj => ?_) (fun i e j cc he hc => ?_)
      · obtain ⟨i, hi⟩ := List.getElem?_of_mem he
        exact (q3 _ e (hidx i e hi)).1
      · obtain ⟨e, he⟩ : ∃ e, ((els.drop off).take n)[i]? = some e := ⟨_, List.getElem?_eq_getElem hi⟩
        obtain ⟨r1, r2⟩ := q3 _ e (hidx i e he)
        obtain ⟨u, hu, _⟩ := r2 j _ (List.getElem?_eq_getElem (by rw [r1]; exact hj))
        simp only [World.cell?, hB]
        rw [show off * wd + (i * wd + j) = (off + i) * wd + j from by rw [Nat.add_mul]; omega]
        simp [hu]
      · obtain ⟨u, hu, hr⟩ := (q3 _ e (hidx i e he)).2 j cc hc
        simp only [hu, Option.getD_some]
        exact hr
  | agg cs ds hl h ih =>
    intro v hv
    cases hv with
    | agg vs _ hl' hr =>
    exact .agg vs ds (hl'.trans hl) fun j u d hu hd => by
        have hlt := (List.getElem?_eq_some_iff.1 hd).1
        have hc : cs[j]? = some (cs[j]'(by omega)) := List.getElem?_eq_getElem (by omega)
        exact ih j _ d hc hd (hr j u _ hu hc)
  | tup cs ds hl h ih =>
    intro v hv
    cases hv with
    | tup vs _ hl' hr =>
    exact .tup vs ds (hl'.trans hl) fun j u d hu hd => by
        have hlt := (List.getElem?_eq_some_iff.1 hd).1
        have hc : cs[j]? = some (cs[j]'(by omega)) := List.getElem?_eq_getElem (by omega)
        exact ih j _ d hc hd (hr j u _ hu hc)
/-- Frames, at a row that is shut. -/
inductive FSubL (p wd : Nat) (els : List AV) (fr : AFr) : List (Nat × AV) → Prop
  | nil : FSubL p wd els fr []
  | cons {t : Nat} {v : AV} {l : List (Nat × AV)} (h : FSub p wd els (aget fr t) v) (k : FSubL p wd els fr l) : FSubL p wd els fr ((t, v) :: l)
theorem FSubL.get {p wd : Nat} {els : List AV} {fr : AFr} {l : List (Nat × AV)} (h : FSubL p wd els fr l) (t : Nat) : FSub p wd els (aget fr t) (agetL l t) := by
  induction h with
  | nil => exact .sub (Sub.any _)
  | cons h k ih =>
    simp only [agetL]
    split
    · rename_i e; subst e; exact h
    · exact ih
theorem VS.freeze {K : Nat} {fr : AFr} {L : Store} {p wd : Nat} {els : List AV} {l : List (Nat × AV)} (hp : aobj L p = some (.arr wd els)) (h : FSubL p wd els fr l) : VS K fr L ⟨fr.n, l⟩ (L.set p none) := fun w I ρ tmps h1 h2 => by
  obtain ⟨ob, hp', hnorm⟩ := join_some hp
  obtain ⟨b, hb⟩ : ∃ b, ρ[p]? = some b := ⟨_, List.getElem?_eq_getElem (by rw [h1.len]; exact (List.getElem?_eq_some_iff.1 hp').1)⟩
  obtain ⟨a1, a2, a3⟩ := own_norm h1 hp hb
  have hle : Le w I ρ w (fun c => I c ∨ c = b) ρ := ⟨fun _ _ => rfl, fun _ h => .inl h, fun _ _ h => h, fun b C t h => ⟨C, h, rfl⟩⟩
  refine ⟨fun c => I c ∨ c = b, ρ, fun _ h => .inl h, fun c hc => ?_, fun _ h => h.of_kill, fun _ _ => rfl, ⟨by simp [h1.len], fun q o c h3 h4 => ?_, fun q q' o o' c h3 h4 h5 h6 => h1.inj q q' o o' c (set_none h3).1 (set_none h4).1 h5 h6, fun c hc => ?_⟩, h2.1, fun t => ?_⟩
  · rcases hc with hc | rfl
    · exact .inl hc
    · exact .inr ⟨p, _, hp', hb⟩
  · obtain ⟨h3, hne⟩ := set_none h3
    obtain ⟨b1, b2, b3⟩ := h1.own q o c h3 h4
    refine ⟨b1, fun hc => ?_, b3.mono hle rfl⟩
    rcases hc with hc | rfl
    · exact b2 hc
    · exact hne (h1.inj q p o _ c h3 hp' h4 hb)
  · rcases hc with hc | rfl
    · exact h1.imm c hc
    · exact a1
  · exact (h.get t).rep hb (.inr rfl) (a3.mono hle rfl) ((h2.2 t).mono hle)
theorem VSV.freeze {K : Nat} {v v' : AV} {L : Store} {p wd : Nat} {els : List AV} (hp : aobj L p = some (.arr wd els)) (h : FSub p wd els v v') : VSV K v L v' (L.set p none) :=
  VS.freeze hp (.cons (by simpa [aget, agetL] using h) .nil)
theorem VSV.sub {K : Nat} {v v' : AV} {L : Store} (h : Sub v v') : VSV K v L v' L := VS.sub (fr := ⟨1, [(0, v)]⟩) (.cons (by simpa [aget, agetL] using h) .nil)
theorem VSV.trans {K : Nat} {v v' v'' : AV} {L L' L'' : Store} (h : VSV K v L v' L') (k : VSV K v' L' v'' L'') : VSV K v L v'' L'' := VS.trans h k
theorem VSV.trunc {K : Nat} {v : AV} {L : Store} (n : Nat) (hK : K ≤ n) (hv : v.upto n = true) (hL : (L.take n).all (oUpto n) = true) : VSV K v L v (L.take n) := VS.trunc n hK (by simpa using hv) hL
/-- All objects are dropped. -/
theorem VSV.pure {v : AV} {L : Store} (hv : v.pur = true) : VSV 0 v L v [] := by
  have := VSV.trunc (K := 0) (v := v) (L := L) 0 (Nat.le_refl _) (AV.upto_pur 0 v hv) (by simp)
  simpa using this
end Go.Proofs.Ytaieiigfheabfaa.Tw

/-! The abstract walk, reckoned out. -/
namespace Go.Proofs.Ytaieiigfheabfaa.Tw
open Go.RowKit
set_option linter.unusedVariables false
set_option linter.unusedSimpArgs false
/-- What is asked of types. -/
structure TyOps where
  u : TypeId → Option TypeDesc
  i : TypeId → Bool
  c : TypeId → Nat
  b : TypeId → Nat
  z : TypeId → Option Value
  s : TypeId → Option (List (Nat × Nat))
abbrev tyOf (P : Program) : TyOps := ⟨P.underlying, fun t => (P.info? t).isSome, P.cellsOf, P.bytesOf, fun t => (P.info? t).bind (·.zero), flatS P⟩
/-- Arithmetic that is not reckoned out, with its laws. -/
structure Ar where
  lt : Int → Int → Bool
  le : Int → Int → Bool
  eq : Int → Int → Bool
  seq : ByteArray → ByteArray → Bool
  beq : Bool → Bool → Bool
  bnot : Bool → Bool
  bsel : Bool → Bool → Bool → Bool
  op : BinOp → IntKind → Int → Int → Int
  neg : IntKind → Int → Int
  inv : IntKind → Int → Int
  wrap : IntKind → Int → Int
  mn : Int → Int → Int
  mx : Int → Int → Int
  len : List AV → Int
  slen : ByteArray → Int
  cat : ByteArray → ByteArray → ByteArray
  byte : UInt8 → Int
  nat : Nat → Int
  ok_lt : ∀ a b, lt a b = decide (a < b)
  ok_le : ∀ a b, le a b = decide (a ≤ b)
  ok_eq : ∀ a b, eq a b = decide (a = b)
  ok_seq : ∀ a b, seq a b = strEq a b
  ok_beq : ∀ a b, beq a b = (a == b)
  ok_bnot : ∀ a, bnot a = !a
  ok_bsel : ∀ t a b, bsel t a b = if t then a else b
  ok_add : ∀ k a b, op .add k a b = k.wrap (a + b)
  ok_sub : ∀ k a b, op .sub k a b = k.wrap (a - b)
  ok_mul : ∀ k a b, op .mul k a b = k.wrap (a * b)
  ok_quo : ∀ k a b, op .quo k a b = k.wrap (a.tdiv b)
  ok_rem : ∀ k a b, op .rem k a b = a.tmod b
  ok_shl : ∀ k a b, op .shl k a b = k.wrap (a * 2 ^ min b.toNat k.bits)
  ok_shr : ∀ k a b, op .shr k a b = a.fdiv (2 ^ min b.toNat k.bits)
  ok_and : ∀ k a b, op .and k a b = k.wrap (BitVec.ofInt k.bits a &&& BitVec.ofInt k.bits b).toNat
  ok_or : ∀ k a b, op .or k a b = k.wrap (BitVec.ofInt k.bits a ||| BitVec.ofInt k.bits b).toNat
  ok_xor : ∀ k a b, op .xor k a b = k.wrap (BitVec.ofInt k.bits a ^^^ BitVec.ofInt k.bits b).toNat
  ok_andn : ∀ k a b, op .andNot k a b = k.wrap (BitVec.ofInt k.bits a &&& ~~~(BitVec.ofInt k.bits b)).toNat
  ok_neg : ∀ k n, neg k n = k.wrap (0 - n)
  ok_inv : ∀ (k : IntKind) n, inv k n = k.wrap (BitVec.ofInt k.bits (if k.signed then -1 else k.max) ^^^ BitVec.ofInt k.bits n).toNat
  ok_wrap : ∀ (k : IntKind) n, wrap k n = k.wrap n
  ok_mn : ∀ a b, mn a b = if b < a then b else a
  ok_mx : ∀ a b, mx a b = if b > a then b else a
  ok_len : ∀ l, len l = l.length
  ok_slen : ∀ s, slen s = s.size
  ok_cat : ∀ a b, cat a b = a ++ b
  ok_byte : ∀ b, byte b = b.toNat
  ok_nat : ∀ n, nat n = n
/-- The arithmetic there is. -/
def ar0 : Ar where
  lt a b := decide (a < b)
  le a b := decide (a ≤ b)
  eq a b := decide (a = b)
  seq := strEq
  beq a b := a == b
  bnot a := !a
  bsel t a b := if t then a else b
  op o k a b := match o with
    | .add => k.wrap (a + b)
    | .sub => k.wrap (a - b)
    | .mul => k.wrap (a * b)
    | .quo => k.wrap (a.tdiv b)
    | .rem => a.tmod b
    | .shl => k.wrap (a * 2 ^ min b.toNat k.bits)
    | .shr => a.fdiv (2 ^ min b.toNat k.bits)
    | .and => k.wrap (BitVec.ofInt k.bits a &&& BitVec.ofInt k.bits b).toNat
    | .or => k.wrap (BitVec.ofInt k.bits a ||| BitVec.ofInt k.bits b).toNat
    | .xor => k.wrap (BitVec.ofInt k.bits a ^^^ BitVec.ofInt k.bits b).toNat
    | .andNot => k.wrap (BitVec.ofInt k.bits a &&& ~~~(BitVec.ofInt k.bits b)).toNat
    | _ => 0
  neg k n := k.wrap (0 - n)
  inv k n := k.wrap (BitVec.ofInt k.bits (if k.signed then -1 else k.max) ^^^ BitVec.ofInt k.bits n).toNat
  wrap k n := k.wrap n
  mn a b := if b < a then b else a
  mx a b := if b > a then b else a
  len l := l.length
  slen s := s.size
  cat a b := a ++ b
  byte b := b.toNat
  nat n := n
  ok_lt _ _ := rfl
  ok_le _ _ := rfl
  ok_eq _ _ := rfl
  ok_seq _ _ := rfl
  ok_beq _ _ := rfl
  ok_bnot _ := rfl
  ok_bsel _ _ _ := rfl
  ok_add _ _ _ := rfl
  ok_sub _ _ _ := rfl
  ok_mul _ _ _ := rfl
  ok_quo _ _ _ := rfl
  ok_rem _ _ _ := rfl
  ok_shl _ _ _ := rfl
  ok_shr _ _ _ := rfl
  ok_and _ _ _ := rfl
  ok_or _ _ _ := rfl
  ok_xor _ _ _ := rfl
  ok_andn _ _ _ := rfl
  ok_neg _ _ := rfl
  ok_inv _ _ := rfl
  ok_wrap _ _ := rfl
  ok_mn _ _ := rfl
  ok_mx _ _ := rfl
  ok_len _ := rfl
  ok_slen _ := rfl
  ok_cat _ _ := rfl
  ok_byte _ := rfl
  ok_nat _ := rfl
/-- A thing that is owed, ahead of another one. -/
structure Nd (p : Unit → Prop) (K : Prop) : Prop where
  h : p ()
  k : K
def chk (b : Bool) (K : Prop) : Prop :=
  match b with
  | true => K
  | false => False
theorem chk_iff {b : Bool} {K : Prop} : chk b K ↔ b = true ∧ K := by cases b <;> simp [chk]
def eflat1 (A : Ar) (k : Nat) (a b : AV) (K : Bool → Prop) : Prop :=
  match a, b with
  | .int q x, .int q' y => chk (Nat.beq k 0) (chk (q == q') (K (A.eq x y)))
  | .bool x, .bool y => chk (Nat.beq k 1) (K (A.beq x y))
  | .str x, .str y => chk (Nat.beq k 2) (K (A.seq x y))
  | _, _ => False
def eflat (A : Ar) : List (Nat × Nat) → List AV → List AV → (Bool → Prop) → Prop
  | [], _, _, K => K true
  | (o, k) :: l, xs, ys, K =>
    match xs[o]?, ys[o]? with
    | some a, some b => eflat1 A k a b fun c => eflat A l xs ys fun d => K (A.bsel c d false)
    | _, _ => False
theorem eflat1_ok {A : Ar} {k : Nat} {a b : AV} {K : Bool → Prop} (h : eflat1 A k a b K) : ∃ c, flat1 k a b = some c ∧ K c := by
  unfold eflat1 at h
  split at h
  · obtain ⟨h0, h⟩ := chk_iff.1 h
    obtain ⟨h1, h2⟩ := chk_iff.1 h
    obtain rfl : k = 0 := Nat.eq_of_beq_eq_true h0
    rw [A.ok_eq] at h2
    exact ⟨_, by rw [flat1, if_pos (by simpa using h1)], h2⟩
  · obtain ⟨h0, h⟩ := chk_iff.1 h
    obtain rfl : k = 1 := Nat.eq_of_beq_eq_true h0
    exact ⟨_, rfl, by rwa [A.ok_beq] at h⟩
  · obtain ⟨h0, h⟩ := chk_iff.1 h
    obtain rfl : k = 2 := Nat.eq_of_beq_eq_true h0
    exact ⟨_, rfl, by rwa [A.ok_seq] at h⟩
  · exact h.elim
theorem eflat_ok {A : Ar} : ∀ {l : List (Nat × Nat)} {xs ys : List AV} {K : Bool → Prop}, eflat A l xs ys K → ∃ b, flatE l xs ys = some b ∧ K b
  | [], _, _, K, h => ⟨true, rfl, h⟩
  | (o, k) :: l, xs, ys, K, h => by
    unfold eflat at h
    split at h
    · rename_i a b ha hb
      obtain ⟨c, hc, h⟩ := eflat1_ok h
      obtain ⟨d, hd, h⟩ := eflat_ok h
      refine ⟨c && d, by unfold flatE; rw [ha, hb]; simp only [hc, hd], ?_⟩
      rw [A.ok_bsel] at h
      cases c <;> simpa using h
    · exact h.elim
def ebin (A : Ar) (T : TyOps) (t : TypeId) (op : BinOp) (x y : AV) (K : AV → Prop) : Prop :=
  match x, y with
  | .int k a, .int k' b =>
    match op with
    | .shl => Nd (fun _ => 0 ≤ b) (K (.int k (A.op .shl k a b)))
    | .shr => Nd (fun _ => 0 ≤ b) (K (.int k (A.op .shr k a b)))
    | .add => chk (k == k') (K (.int k (A.op .add k a b)))
    | .sub => chk (k == k') (K (.int k (A.op .sub k a b)))
    | .mul => chk (k == k') (K (.int k (A.op .mul k a b)))
    | .quo => chk (k == k') (Nd (fun _ => b ≠ 0) (K (.int k (A.op .quo k a b))))
    | .rem => chk (k == k') (Nd (fun _ => b ≠ 0) (K (.int k (A.op .rem k a b))))
    | .and => chk (k == k') (K (.int k (A.op .and k a b)))
    | .or => chk (k == k') (K (.int k (A.op .or k a b)))
    | .xor => chk (k == k') (K (.int k (A.op .xor k a b)))
    | .andNot => chk (k == k') (K (.int k (A.op .andNot k a b)))
    | .eql => chk (k == k') (K (.bool (A.eq a b)))
    | .neq => chk (k == k') (K (.bool (A.bnot (A.eq a b))))
    | .lss => chk (k == k') (K (.bool (A.lt a b)))
    | .leq => chk (k == k') (K (.bool (A.le a b)))
    | .gtr => chk (k == k') (K (.bool (A.lt b a)))
    | .geq => chk (k == k') (K (.bool (A.le b a)))
  | .str a, .str b =>
    match op with
    | .add => Nd (fun _ => a.size + b.size ≤ 9223372036854775807) (K (.str (A.cat a b)))
    | .eql => K (.bool (A.seq a b))
    | .neq => K (.bool (A.bnot (A.seq a b)))
    | _ => False
  | .bool a, .bool b =>
    match op, T.u t with
    | .eql, some .bool => K (.bool (A.beq a b))
    | .neq, some .bool => K (.bool (A.bnot (A.beq a b)))
    | _, _ => False
  | .ref .., .nil | .imm .., .nil =>
    match op, T.u t with
    | .eql, some (.pointer _) => K (.bool false)
    | .neq, some (.pointer _) => K (.bool true)
    | _, _ => False
  | .nil, .nil =>
    match op, T.u t with
    | .eql, some (.pointer _) => K (.bool true)
    | .neq, some (.pointer _) => K (.bool false)
    | _, _ => False
  | .func .., .nilf =>
    match op with
    | .eql => chk (nilT 0 (T.u t)) (K (.bool false))
    | .neq => chk (nilT 0 (T.u t)) (K (.bool true))
    | _ => False
  | .nilf, .nilf =>
    match op with
    | .eql => chk (nilT 0 (T.u t)) (K (.bool true))
    | .neq => chk (nilT 0 (T.u t)) (K (.bool false))
    | _ => False
  | .row .., .nils =>
    match op with
    | .eql => chk (nilT 1 (T.u t)) (K (.bool false))
    | .neq => chk (nilT 1 (T.u t)) (K (.bool true))
    | _ => False
  | .nils, .nils =>
    match op with
    | .eql => chk (nilT 1 (T.u t)) (K (.bool true))
    | .neq => chk (nilT 1 (T.u t)) (K (.bool false))
    | _ => False
  | .ifc _ _, .raw .nilIface =>
    match op with
    | .eql => chk (nilT 2 (T.u t)) (K (.bool false))
    | .neq => chk (nilT 2 (T.u t)) (K (.bool true))
    | _ => False
  | .agg xs, .agg ys =>
    match op, T.s t with
    | .eql, some l => eflat A l xs ys fun b => K (.bool b)
    | .neq, some l => eflat A l xs ys fun b => K (.bool (A.bnot b))
    | _, _ => False
  | _, _ => False
theorem ptr_pointee {P : Program} {t e : TypeId} (h : P.underlying t = some (.pointer e)) : P.underlying t = some (.pointer (P.pointee t)) := by
  have : P.pointee t = e := by simp [Program.pointee, h]
  rw [this]; exact h
theorem ebin_ok {A : Ar} {P : Program} {t : TypeId} {op : BinOp} {x y : AV} {K : AV → Prop} (h : ebin A (tyOf P) t op x y K) : abin P t op x y K := by
  unfold ebin at h
  unfold abin
  split at h
  · cases op <;> dsimp only at h ⊢ <;> first
      | (obtain ⟨h1, h⟩ := chk_iff.1 h; refine ⟨by simpa using h1, ?_⟩; first
          | (obtain ⟨h2, h⟩ := h; refine ⟨h2, ?_⟩; first | rwa [A.ok_quo] at h | rwa [A.ok_rem] at h)
          | rwa [A.ok_add] at h | rwa [A.ok_sub] at h | rwa [A.ok_mul] at h | rwa [A.ok_and] at h | rwa [A.ok_or] at h | rwa [A.ok_xor] at h | rwa [A.ok_andn] at h
          | rwa [A.ok_eq] at h | rwa [A.ok_bnot, A.ok_eq] at h | rwa [A.ok_lt] at h | rwa [A.ok_le] at h)
      | (obtain ⟨h1, h⟩ := h; refine ⟨h1, ?_⟩; first | rwa [A.ok_shl] at h | rwa [A.ok_shr] at h)
  · cases op <;> dsimp only at h ⊢ <;> first
      | (obtain ⟨h1, h⟩ := h; exact ⟨h1, by rwa [A.ok_cat] at h⟩)
      | rwa [A.ok_seq] at h
      | rwa [A.ok_bnot, A.ok_seq] at h
      | exact h
  · split at h
    · rename_i hu; exact ⟨hu, by rwa [A.ok_beq] at h⟩
    · rename_i hu; exact ⟨hu, by rwa [A.ok_bnot, A.ok_beq] at h⟩
    · exact h.elim
  · split at h
    · rename_i e hu; exact ⟨ptr_pointee hu, h⟩
    · rename_i e hu; exact ⟨ptr_pointee hu, h⟩
    · exact h.elim
  · split at h
    · rename_i e hu; exact ⟨ptr_pointee hu, h⟩
    · rename_i e hu; exact ⟨ptr_pointee hu, h⟩
    · exact h.elim
  · split at h
    · rename_i e hu; exact ⟨ptr_pointee hu, h⟩
    · rename_i e hu; exact ⟨ptr_pointee hu, h⟩
    · exact h.elim
  all_goals first
    | exact h.elim
    | (split at h
       · rename_i l hl; obtain ⟨b, hb, h⟩ := eflat_ok h; exact ⟨l, b, hl, hb, h⟩
       · rename_i l hl; obtain ⟨b, hb, h⟩ := eflat_ok h; exact ⟨l, b, hl, hb, by rwa [A.ok_bnot] at h⟩
       · exact h.elim)
    | (cases op <;> dsimp only at h ⊢ <;> first | exact h.elim | exact ⟨(chk_iff.1 h).1, (chk_iff.1 h).2⟩)
def eun (A : Ar) (op : UnOp) (x : AV) (K : AV → Prop) : Prop :=
  match op, x with
  | .neg, .int k n => K (.int k (A.neg k n))
  | .xor, .int k n => K (.int k (A.inv k n))
  | .not, .bool b => K (.bool (match b with | true => false | false => true))
  | _, _ => False
theorem eun_ok {A : Ar} {op : UnOp} {x : AV} {K : AV → Prop} (h : eun A op x K) : aun op x K := by
  unfold eun at h
  unfold aun
  split at h
  · rwa [A.ok_neg] at h
  · rwa [A.ok_inv] at h
  · rename_i b; cases b <;> exact h
  · exact h.elim
def eload (T : TyOps) (t : TypeId) (cs : List AV) (K : AV → Prop) : Prop :=
  match T.u t with
  | some (.struct _) => chk (T.i t && decide (T.c t ≤ cs.length)) (K (.agg (cs.take (T.c t))))
  | some (.array _ _) => chk (T.i t) (∃ es, es = cs.take (T.c t) ∧ T.c t ≤ cs.length ∧ K (.agg es))
  | some _ => match cs with | c :: _ => K c | [] => False
  | none => False
theorem eload_ok {P : Program} {t : TypeId} {cs : List AV} {K : AV → Prop} (h : eload (tyOf P) t cs K) : aload P t cs K := by
  unfold eload at h
  unfold aload
  dsimp only at h
  split at h
  · rename_i hu; simp only [hu]; obtain ⟨h1, h⟩ := chk_iff.1 h; simp at h1; exact ⟨h1.1, h1.2, h⟩
  · rename_i hu; simp only [hu]; obtain ⟨h1, es, rfl, h2, h⟩ := chk_iff.1 h; exact ⟨h1, h2, h⟩
  · rename_i d hn1 hn2 hu
    simp only [hu]
    cases d <;> first | exact h | exact absurd rfl (hn1 _) | exact absurd rfl (hn2 _ _)
  · exact h.elim
def eref (L : Store) (p w i : Nat) (K : AV → Prop) : Prop :=
  match (L[p]?).join with
  | some (.box w' e) => chk (w' == w && i == 0) (K e)
  | some (.arr w' els) => chk (w' == w) (∃ e, els[i]? = some e ∧ K e)
  | _ => False
theorem eref_ok {L : Store} {p w i : Nat} {K K' : AV → Prop} (hK : ∀ e, K e → K' e) (h : eref L p w i K) : aref L p w i K' := by
  unfold eref at h
  split at h
  · rename_i w' e ho
    obtain ⟨h1, hh⟩ := chk_iff.1 h
    simp at h1
    obtain ⟨rfl, rfl⟩ := h1
    exact ⟨[e], by simp [aobj, ho, AO.norm], e, rfl, hK _ hh⟩
  · rename_i w' els ho
    obtain ⟨h1, e, he, hh⟩ := chk_iff.1 h
    simp at h1
    subst h1
    exact ⟨els, by simp [aobj, ho, AO.norm], e, he, hK _ hh⟩
  · exact h.elim
def eloadAt (T : TyOps) (L : Store) (t : TypeId) (a : AV) (K : AV → Prop) : Prop :=
  match a with
  | .ref p w i f => eref L p w i fun e => eload T t (e.cells.drop f) K
  | .imm cs => eload T t cs K
  | _ => False
theorem eloadAt_ok {P : Program} {L : Store} {t : TypeId} {a : AV} {K : AV → Prop} (h : eloadAt (tyOf P) L t a K) : aloadAt P L t a K := by
  unfold eloadAt at h
  unfold aloadAt
  split at h
  · exact eref_ok (fun e h => eload_ok h) h
  · exact eload_ok h
  · exact h.elim
def efaddr (T : TyOps) (s : TypeId) (x : AV) (f : Nat) (K : AV → Prop) : Prop :=
  match T.u s with
  | some (.struct fields) =>
    match fields[f]? with
    | some fd => chk (T.i fd.type && T.c fd.type != 0)
      (match x with
      | .ref p w i o => K (.ref p w i (o + fd.offset))
      | .imm cs => K (.imm (cs.drop fd.offset))
      | _ => False)
    | none => False
  | _ => False
theorem efaddr_ok {P : Program} {s : TypeId} {x : AV} {f : Nat} {K : AV → Prop} (h : efaddr (tyOf P) s x f K) : afaddr P s x f K := by
  unfold efaddr at h
  unfold afaddr
  dsimp only at h
  split at h
  · rename_i fields hu
    simp only [hu]
    split at h
    · rename_i fd hf
      simp only [hf]
      obtain ⟨h1, h⟩ := chk_iff.1 h
      simp at h1
      exact ⟨⟨h1.1, h1.2⟩, h⟩
    · exact h.elim
  · exact h.elim
def eixArr (b : Bool) (c n : Nat) (i : Int) (K : Nat → Prop) : Prop := chk b (∃ k : Nat, i = k ∧ k < n ∧ K (k * c))
def eiaddr (T : TyOps) (t : TypeId) (x ix : AV) (K : AV → Prop) : Prop :=
  match ix with
  | .int _ i =>
    match T.u t, x with
    | some (.slice e), .sl w els => chk (T.i e && T.c e == w) (∃ (k : Nat) (el : AV), i = k ∧ els[k]? = some el ∧ K (.imm el.cells))
    | some (.slice e), .slt w els => chk (T.i e && T.c e == w) (∃ (k : Nat) (el : AV), i = k ∧ els[k]? = some el ∧ K (.imm el.cells))
    | some (.slice e), .row p w off n => chk (T.i e && T.c e == w) (∃ k : Nat, i = k ∧ k < n ∧ K (.ref p w (off + k) 0))
    | some (.array n e), .ref p w i0 f => eixArr (T.i e) (T.c e) n i fun o => ∃ q, q = f + o ∧ K (.ref p w i0 q)
    | some (.array n e), .imm cs => eixArr (T.i e) (T.c e) n i fun o => K (.imm (cs.drop o))
    | _, _ => False
  | _ => False
theorem eiaddr_ok {P : Program} {t : TypeId} {x ix : AV} {K : AV → Prop} (h : eiaddr (tyOf P) t x ix K) : aiaddr P t x ix K := by
  unfold eiaddr at h
  unfold aiaddr
  split at h
  · dsimp only at h
    split at h
    · rename_i hu
      simp only [hu]
      obtain ⟨h1, k, el, rfl, he, h⟩ := chk_iff.1 h
      simp at h1
      exact ⟨⟨h1.1, h1.2⟩, by omega, el, by simpa using he, h⟩
    · rename_i hu
      simp only [hu]
      obtain ⟨h1, k, el, rfl, he, h⟩ := chk_iff.1 h
      simp at h1
      exact ⟨⟨h1.1, h1.2⟩, by omega, el, by simpa using he, h⟩
    · rename_i hu
      simp only [hu]
      obtain ⟨h1, k, rfl, hk, h⟩ := chk_iff.1 h
      simp at h1
      exact ⟨⟨h1.1, h1.2⟩, by omega, by omega, by simpa using h⟩
    · rename_i hu
      simp only [hu]
      obtain ⟨h1, k, rfl, hk, q, rfl, h⟩ := chk_iff.1 h
      exact ⟨h1, by omega, by omega, by simpa using h⟩
    · rename_i hu
      simp only [hu]
      obtain ⟨h1, k, rfl, hk, h⟩ := chk_iff.1 h
      exact ⟨h1, by omega, by omega, by simpa using h⟩
    · exact h.elim
  · exact h.elim
def efield (T : TyOps) (t : TypeId) (x : AV) (f : Nat) (K : AV → Prop) : Prop :=
  match T.u t, x with
  | some (.struct fields), .agg cs => match fields[f]? with
    | some fd => eload T fd.type (cs.drop fd.offset) K
    | none => False
  | _, _ => False
theorem efield_ok {P : Program} {t : TypeId} {x : AV} {f : Nat} {K : AV → Prop} (h : efield (tyOf P) t x f K) : afield P t x f K := by
  unfold efield at h
  unfold afield
  dsimp only at h
  split at h
  · rename_i hu
    simp only [hu]
    split at h
    · rename_i hf; simp only [hf]; exact eload_ok h
    · exact h.elim
  · exact h.elim
def eindex (A : Ar) (T : TyOps) (t : TypeId) (x ix : AV) (K : AV → Prop) : Prop :=
  match ix with
  | .int _ i =>
    match T.u t, x with
    | some .string, .str s => ∃ (k : Nat) (b : UInt8), i = k ∧ s.data[k]? = some b ∧ K (.int .u8 (A.byte b))
    | some (.array n e), .agg cs => eixArr (T.i e) (T.c e) n i fun o => eload T e (cs.drop o) K
    | _, _ => False
  | _ => False
theorem eindex_ok {A : Ar} {P : Program} {t : TypeId} {x ix : AV} {K : AV → Prop} (h : eindex A (tyOf P) t x ix K) : aindex P t x ix K := by
  unfold eindex at h
  unfold aindex
  split at h
  · dsimp only at h
    split at h
    · rename_i hu
      simp only [hu]
      obtain ⟨k, b, rfl, hb, h⟩ := h
      exact ⟨by omega, b, by simpa using hb, by rwa [A.ok_byte] at h⟩
    · rename_i hu
      simp only [hu]
      obtain ⟨h1, k, rfl, hk, h⟩ := chk_iff.1 h
      exact ⟨h1, by omega, by omega, by simpa using eload_ok h⟩
    · exact h.elim
  · exact h.elim
def elen (A : Ar) (T : TyOps) (t : TypeId) (x : AV) (K : AV → Prop) : Prop :=
  match T.u t, x with
  | some .string, .str s => K (.int .i64 (A.slen s))
  | some (.slice _), .nils => K (.int .i64 0)
  | some (.slice _), .sl _ els => K (.int .i64 (A.len els))
  | some (.slice _), .slt _ els => K (.int .i64 (A.len els))
  | some (.slice _), .row _ _ _ n => K (.int .i64 (A.nat n))
  | some (.array n _), _ => K (.int .i64 (A.nat n))
  | _, _ => False
theorem elen_ok {A : Ar} {P : Program} {t : TypeId} {x : AV} {K : AV → Prop} (h : elen A (tyOf P) t x K) : alen P t x K := by
  unfold elen at h
  unfold alen
  dsimp only at h
  split at h <;> rename_i hu <;> simp only [hu] <;> first
    | exact h
    | rwa [A.ok_slen] at h
    | rwa [A.ok_len] at h
    | rwa [A.ok_nat] at h
def elenL (A : Ar) (T : TyOps) (L : Store) (t : TypeId) (x : AV) (K : AV → Prop) : Prop :=
  match x with
  | .map p => match T.u t with
    | some (.map _ _) => match (L[p]?).join with
      | some (.mp c es) => ∃ n : Nat, n = es.length ∧ K (.int .i64 n)
      | _ => False
    | _ => False
  | _ => elen A T t x K
theorem elenL_ok {A : Ar} {P : Program} {L : Store} {t : TypeId} {x : AV} {K : AV → Prop} (h : elenL A (tyOf P) L t x K) : alenL P L t x K := by
  unfold elenL at h
  unfold alenL
  cases x <;> first | exact elen_ok h | skip
  dsimp only at h ⊢
  split at h
  · rename_i hu
    simp only [show P.underlying t = _ from hu]
    split at h
    · rename_i hp
      simp only [hp]
      obtain ⟨n, rfl, h⟩ := h
      exact h
    · exact h.elim
  · exact h.elim
/-- A bound of a cut: its number is to be named. -/
def ebound (x : Option AV) (d : Nat) (K : Nat → Prop) : Prop :=
  match x with
  | none => K d
  | some (.int _ i) => ∃ k : Nat, i = k ∧ K k
  | _ => False
theorem ebound_ok {x : Option AV} {d : Nat} {K K' : Nat → Prop} (hK : ∀ n, K n → K' n) (h : ebound x d K) : abound x d K' := by
  unfold ebound at h
  unfold abound
  split at h
  · exact hK _ h
  · obtain ⟨k, rfl, h⟩ := h; exact ⟨by omega, by simpa using hK _ h⟩
  · exact h.elim
/-- What is cut out: to be named. -/
def ecut (els : List AV) (l h : Nat) (K : List AV → Prop) : Prop := ∃ es, es = (els.take h).drop l ∧ l ≤ h ∧ h ≤ els.length ∧ K es
def eslice (T : TyOps) (t : TypeId) (x : AV) (lo hi mx : Option AV) (K : AV → Prop) : Prop :=
  match T.u t, x, mx with
  | some .string, .str s, none => ebound lo 0 fun l => match hi with
    | none => ∃ r, r = s.extract l s.size ∧ l ≤ s.size ∧ K (.str r)
    | some hi => ebound (some hi) 0 fun h => ∃ r, r = s.extract l h ∧ l ≤ h ∧ h ≤ s.size ∧ K (.str r)
  | some (.slice e), .sl w els, none => chk (T.i e && T.c e == w) (ebound lo 0 fun l => match hi with
    | none => ∃ es, es = els.drop l ∧ l ≤ els.length ∧ K (.sl w es)
    | some hi => ebound (some hi) 0 fun h => ecut els l h fun es => K (.sl w es))
  | some (.slice e), .slt w els, none => chk (T.i e && T.c e == w) (ebound lo 0 fun l => match hi with
    | none => ∃ es, es = els.drop l ∧ l ≤ els.length ∧ K (.sl w es)
    | some hi => ebound (some hi) 0 fun h => ecut els l h fun es => K (.sl w es))
  | some (.slice e), .sl w els, some m => chk (T.i e && T.c e == w && hi.isSome) (ebound lo 0 fun l => ebound hi 0 fun h => ebound (some m) 0 fun m => h = m ∧ ecut els l h fun es => K (.slt w es))
  | some (.slice e), .slt w els, some m => chk (T.i e && T.c e == w && hi.isSome) (ebound lo 0 fun l => ebound hi 0 fun h => ebound (some m) 0 fun m => h = m ∧ ecut els l h fun es => K (.slt w es))
  | some (.slice e), .nils, none => chk (T.i e) (ebound lo 0 fun l => ebound hi 0 fun h => l ≤ h ∧ h ≤ 0 ∧ K .nils)
  | some (.slice e), .nils, some m => chk (T.i e && hi.isSome) (ebound lo 0 fun l => ebound hi 0 fun h => ebound (some m) 0 fun m => l ≤ h ∧ h = m ∧ h ≤ 0 ∧ K .nils)
  | some (.slice e), .row p w off n, none => chk (T.i e && T.c e == w) (match lo with
    | none => match hi with
      | none => K (.row p w off n)
      | some hi => ebound (some hi) 0 fun h => h ≤ n ∧ K (.row p w off h)
    | some l => ebound (some l) 0 fun l => ebound hi n fun h => (l < h ∧ h ≤ n ∧ K (.row p w (off + l) (h - l))) ∨ (l = h ∧ h ≤ n ∧ K (.sl w [])))
  | some (.slice e), .row p w off n, some m => chk (T.i e && T.c e == w && hi.isSome && lo.isNone) (ebound hi 0 fun h => ebound (some m) 0 fun m => h = m ∧ h ≤ n ∧ K (.row p w off h))
  | _, _, _ => False
theorem ebound_id {x : Option AV} {d : Nat} {K : Nat → Prop} (h : ebound x d K) : abound x d K := ebound_ok (fun _ h => h) h
theorem abound_none {d : Nat} {K : Nat → Prop} (h : K d) : abound none d K := h
theorem abound_some {x : AV} {d d' : Nat} {K : Nat → Prop} (h : abound (some x) d K) : abound (some x) d' K := by cases x <;> exact h
theorem eslice_ok {P : Program} {t : TypeId} {x : AV} {lo hi mx : Option AV} {K : AV → Prop} (h : eslice (tyOf P) t x lo hi mx K) : aslice P t x lo hi mx K := by
  unfold eslice at h
  unfold aslice
  dsimp only at h
  split at h
  · rename_i s hu
    simp only [hu]
    refine ebound_ok (fun l h => ?_) h
    split at h
    · obtain ⟨r, rfl, h1, h⟩ := h; exact ⟨h1, Nat.le_refl _, h⟩
    · exact abound_some (ebound_ok (fun n h => let ⟨r, e, h1, h2, h⟩ := h; ⟨h1, h2, e ▸ h⟩) h)
  · rename_i e w els hu
    simp only [hu]
    obtain ⟨h1, h⟩ := chk_iff.1 h
    simp at h1
    refine ⟨h1.1, h1.2, ebound_ok (fun l h => ?_) h⟩
    split at h
    · obtain ⟨es, rfl, h1, h⟩ := h; exact ⟨h1, Nat.le_refl _, by simpa using h⟩
    · exact abound_some (ebound_ok (fun n h => let ⟨r, e, h1, h2, h⟩ := h; ⟨h1, h2, e ▸ h⟩) h)
  · rename_i e w els hu
    simp only [hu]
    obtain ⟨h1, h⟩ := chk_iff.1 h
    simp at h1
    refine ⟨h1.1, h1.2, ebound_ok (fun l h => ?_) h⟩
    split at h
    · obtain ⟨es, rfl, h1, h⟩ := h; exact ⟨h1, Nat.le_refl _, by simpa using h⟩
    · exact abound_some (ebound_ok (fun n h => let ⟨r, e, h1, h2, h⟩ := h; ⟨h1, h2, e ▸ h⟩) h)
  · rename_i e w els m hu
    simp only [hu]
    obtain ⟨h1, h⟩ := chk_iff.1 h
    simp at h1
    refine ⟨h1.1.1, h1.1.2, h1.2, ebound_ok (fun l h => ?_) h⟩
    obtain ⟨v, rfl⟩ := Option.isSome_iff_exists.1 h1.2
    exact abound_some (ebound_ok (fun n h => ebound_ok (fun m h => let ⟨e0, r, e, h1, h2, h⟩ := h; ⟨h1, e0, h2, e ▸ h⟩) h) h)
  · rename_i e w els m hu
    simp only [hu]
    obtain ⟨h1, h⟩ := chk_iff.1 h
    simp at h1
    refine ⟨h1.1.1, h1.1.2, h1.2, ebound_ok (fun l h => ?_) h⟩
    obtain ⟨v, rfl⟩ := Option.isSome_iff_exists.1 h1.2
    exact abound_some (ebound_ok (fun n h => ebound_ok (fun m h => let ⟨e0, r, e, h1, h2, h⟩ := h; ⟨h1, e0, h2, e ▸ h⟩) h) h)
  · rename_i hu; simp only [hu]; obtain ⟨h1, h⟩ := chk_iff.1 h; exact ⟨h1, ebound_ok (fun l h => ebound_id h) h⟩
  · rename_i hu; simp only [hu]; obtain ⟨h1, h⟩ := chk_iff.1 h; simp at h1; exact ⟨h1.1, h1.2, ebound_ok (fun l h => ebound_ok (fun m h => ebound_id h) h) h⟩
  · rename_i hu
    simp only [hu]
    obtain ⟨h1, h⟩ := chk_iff.1 h
    simp at h1
    refine ⟨h1.1, h1.2, ?_⟩
    split at h
    · split at h
      · exact abound_none ⟨Nat.le_refl _, h⟩
      · exact abound_some (ebound_id h)
    · exact ebound_ok (fun l h => ebound_id h) h
  · rename_i hu
    simp only [hu]
    obtain ⟨h1, h⟩ := chk_iff.1 h
    simp at h1
    obtain ⟨v, rfl⟩ := Option.isSome_iff_exists.1 h1.1.2
    exact ⟨h1.1.1.1, h1.1.1.2, rfl, h1.2, abound_some (ebound_ok (fun n h => ebound_id h) h)⟩
  · exact h.elim
def econv (A : Ar) (T : TyOps) (src dst : TypeId) (x : AV) (K : AV → Prop) : Prop :=
  match T.u src, T.u dst, x with
  | some _, some (.int k), .int _ n => K (.int k (A.wrap k n))
  | some _, some .string, .str s => K (.str s)
  | some (.slice e), some .string, .nils => chk (match T.u e with | some (.int .u8) => true | _ => false) (K (.str .empty))
  | some (.slice e), some .string, .sl w els => chk ((match T.u e with | some (.int .u8) => true | _ => false) && w == 1) (∃ bs, els = bytesAV bs ∧ K (.str ⟨bs.toArray⟩))
  | some (.slice e), some .string, .slt w els => chk ((match T.u e with | some (.int .u8) => true | _ => false) && w == 1) (∃ bs, els = bytesAV bs ∧ K (.str ⟨bs.toArray⟩))
  | _, _, _ => False
theorem isU8 {o : Option TypeDesc} (h : (match o with | some (.int .u8) => true | _ => false) = true) : o = some (.int .u8) := by
  split at h
  · rfl
  · cases h
theorem econv_ok {A : Ar} {P : Program} {src dst : TypeId} {x : AV} {K : AV → Prop} (h : econv A (tyOf P) src dst x K) : aconv P src dst x K := by
  unfold econv at h
  unfold aconv
  dsimp only at h
  split at h
  · rename_i hs hd; simp only [hs, hd]; rwa [A.ok_wrap] at h
  · rename_i hs hd; simp only [hs, hd]; exact h
  · rename_i hs hd; simp only [hs, hd]; obtain ⟨h1, h⟩ := chk_iff.1 h; exact ⟨isU8 h1, h⟩
  · rename_i hs hd; simp only [hs, hd]; obtain ⟨h1, h⟩ := chk_iff.1 h; simp only [Bool.and_eq_true, beq_iff_eq] at h1; exact ⟨isU8 h1.1, h1.2, h⟩
  · rename_i hs hd; simp only [hs, hd]; obtain ⟨h1, h⟩ := chk_iff.1 h; simp only [Bool.and_eq_true, beq_iff_eq] at h1; exact ⟨isU8 h1.1, h1.2, h⟩
  · exact h.elim
def ezero (T : TyOps) (t : TypeId) : Option AV := (T.z t).map ofVal
def ebuild (T : TyOps) (t : TypeId) (parts : List (Nat × AV)) (K : AV → Prop) : Prop :=
  match ezero T t, T.u t with
  | some z, some (.struct fields) => chk (z.known && fields.toList.all (fun f => T.i f.type)) (match afill (fun i => (fields[i]?).map fun (f : Field) => (f.offset, T.c f.type)) z.cells parts with | some cs => K (.agg cs) | none => False)
  | some z, some (.array _ e) => chk (z.known && T.i e) (match afill (fun i => some (i * T.c e, T.c e)) z.cells parts with | some cs => K (.agg cs) | none => False)
  | _, _ => False
theorem ebuild_ok {P : Program} {t : TypeId} {parts : List (Nat × AV)} {K : AV → Prop} (h : ebuild (tyOf P) t parts K) : abuild P t parts K := by
  unfold ebuild at h
  unfold abuild
  dsimp only at h
  split at h
  · rename_i z fields hz hu
    have hz' : azero P t = some z := hz
    simp only [hu, hz']
    obtain ⟨h1, h⟩ := chk_iff.1 h
    simp only [Bool.and_eq_true, List.all_eq_true] at h1
    split at h
    · rename_i cs hf; exact ⟨h1.1, h1.2, cs, hf, h⟩
    · exact h.elim
  · rename_i z n e hz hu
    have hz' : azero P t = some z := hz
    simp only [hu, hz']
    obtain ⟨h1, h⟩ := chk_iff.1 h
    simp only [Bool.and_eq_true] at h1
    split at h
    · rename_i cs hf; exact ⟨h1.1, h1.2, cs, hf, h⟩
    · exact h.elim
  · exact h.elim
end Go.Proofs.Ytaieiigfheabfaa.Tw
