import Derived.Test.YtaieiigfheabfaaTw4
import Derived.OrdersIn
import Derived.Still
/-! Regions that draw their order, and whose operations leave the objects alone: one walk, in the order of the text, serves every order. -/
namespace Go.Proofs.Ytaieiigfheabfaa.Tw
open Go.RowKit
set_option linter.unusedVariables false
set_option linter.unusedSimpArgs false
def frOn (S : List Nat) (fr : AFr) : AFr := ⟨fr.n, fr.l.filter fun x => S.contains x.1⟩
theorem aget_frOn (S : List Nat) (fr : AFr) (t : Nat) : aget (frOn S fr) t = if t ∈ S then aget fr t else .any := by
  obtain ⟨n, l⟩ := fr
  simp only [aget, frOn]
  induction l with
  | nil => simp [agetL]
  | cons x l ih =>
    obtain ⟨d, v⟩ := x
    by_cases hd : d ∈ S
    · simp only [List.filter_cons, List.contains_iff_mem, hd, if_true, agetL, ih]
      by_cases ht : t = d
      · subst ht; simp [hd]
      · simp [ht]
    · simp only [List.filter_cons, List.contains_iff_mem, hd, if_false, agetL, ih]
      by_cases ht : t = d
      · subst ht; simp [hd]
      · simp [ht]
theorem aget_put (dst : Option Tmp) (v : AV) (fr : AFr) (t : Nat) : aget (aputf dst v fr) t = if dst = some t ∧ t < fr.n then v else aget fr t := by
  cases dst with
  | none => simp [aputf]
  | some d =>
    simp only [aputf]
    by_cases hd : d < fr.n
    · rw [if_pos hd]
      simp only [aget, agetL]
      by_cases ht : t = d
      · subst ht; rw [if_pos rfl, if_pos ⟨rfl, hd⟩]
      · rw [if_neg ht, if_neg]
        rintro ⟨h, _⟩
        cases h
        exact ht rfl
    · rw [if_neg hd, if_neg]
      rintro ⟨h, h2⟩
      cases h
      exact hd h2
theorem aputf_n (dst : Option Tmp) (v : AV) (fr : AFr) : (aputf dst v fr).n = fr.n := by
  cases dst with
  | none => rfl
  | some d => simp only [aputf]; split <;> rfl
theorem FEq.put {fr fr' : AFr} (h : FEq fr fr') (dst : Option Tmp) (v : AV) : FEq (aputf dst v fr) (aputf dst v fr') :=
  ⟨by rw [aputf_n, aputf_n]; exact h.1, fun t => by rw [aget_put, aget_put, h.1, h.2]⟩
theorem put_comm (x y : Option Tmp) (v u : AV) (fr : AFr) (h : ∀ d, x = some d → y ≠ some d) : FEq (aputf y u (aputf x v fr)) (aputf x v (aputf y u fr)) :=
  ⟨by simp only [aputf_n], fun t => by
    simp only [aget_put, aputf_n]
    by_cases h1 : y = some t ∧ t < fr.n
    · rw [if_pos h1, if_neg (fun h2 => h t h2.1 h1.1)]
      simp [h1]
    · rw [if_neg h1]
      simp [h1]⟩
section
variable {P : Program} {r : Option Nat} {K : Nat} {ops : Array Oper} {L : Store}
/-- In this frame the operation leaves v in its temporary (or does not take place), the objects as they were, whatever else has been done. -/
def AY (P : Program) (r : Option Nat) (K : Nat) (ops : Array Oper) (L : Store) (o : Oper) (fr : AFr) (v : AV) : Prop :=
  ∀ (S : Base) (a : Act) (w : World) (I : Nat → Prop) (ρ : List Nat) (nx : Act → World → Prop) (Q : Exit → Act → World → Prop), Rel w I ρ L → RepF w I ρ a.tmps (frOn (o.looksAt ops) fr) → DefOk S w I a.defers →
    (∀ u w' I', Rel w' I' ρ L → Rep w' I' ρ u v → Le w I ρ w' I' ρ → Ev K w I ρ L w' I' ρ L → nx (a.put o.dst u) w') →
    (if Region.wanted o (yielded ops a.tmps) then o.wpIn (Fen r) 0 P a w nx Q else (∀ f, o.about P w a.eval = some f → (Fen r).fn f) ∧ nx (a.put o.dst undef) w)
theorem AY.congr {o : Oper} {fr fr' : AFr} {v : AV} (hn : fr.n = fr'.n) (h : ∀ t, t ∈ o.looksAt ops → aget fr t = aget fr' t) (hy : AY P r K ops L o fr v) : AY P r K ops L o fr' v := by
  intro S a w I ρ nx Q h1 h2 hd h3
  refine hy S a w I ρ nx Q h1 ⟨h2.1.trans hn.symm, fun t => ?_⟩ hd h3
  have := h2.2 t
  rw [aget_frOn] at this ⊢
  split
  · rename_i ht; rw [if_pos ht] at this; rw [h t ht]; exact this
  · exact .any _
/-- Whatever order is picked from here on. -/
def anyQ (P : Program) (r : Option Nat) (K : Nat) (ops : Array Oper) (L : Store) (Q : AFr → Prop) : Nat → Array Bool → AFr → Prop
  | 0, listed, fr => Region.ready .any ops listed = [] ∧ Q fr
  | fuel + 1, listed, fr => (Region.ready .any ops listed = [] → Q fr) ∧
    ∀ i ∈ Region.ready .any ops listed, ∃ o v, ops[i]? = some o ∧ AY P r K ops L o fr v ∧ anyQ P r K ops L Q fuel (listed.setIfInBounds i true) (aputf o.dst v fr)
theorem anyQ_sound {Q : AFr → Prop} {Q' : Exit → Act → World → Prop} {w0 : World} {I0 : Nat → Prop} {ρ : List Nat} {a0 : Act}
    (S : Base) (hd0 : DefOk S w0 I0 a0.defers) (hQ : ∀ fr a w I, Q fr → Rel w I ρ L → RepF w I ρ a.tmps fr → Le w0 I0 ρ w I ρ → Ev K w0 I0 ρ L w I ρ L → a.tmps.size = a0.tmps.size → a.defers = a0.defers → Q' .normal a w) :
    ∀ (fuel : Nat) (listed : Array Bool) (fr : AFr) (a : Act) (w : World) (I : Nat → Prop), Rel w I ρ L → RepF w I ρ a.tmps fr → Le w0 I0 ρ w I ρ → Ev K w0 I0 ρ L w I ρ L → a.tmps.size = a0.tmps.size → a.defers = a0.defers →
      anyQ P r K ops L Q fuel listed fr → wpAnyIn (Fen r) 0 P .any ops Q' fuel listed a w
  | 0, listed, fr, a, w, I, h1, h2, h3, h4, h5, h6, h => ⟨h.1, hQ fr a w I h.2 h1 h2 h3 h4 h5 h6⟩
  | fuel + 1, listed, fr, a, w, I, h1, h2, h3, h4, h5, h6, h => by
    refine ⟨fun e => hQ fr a w I (h.1 e) h1 h2 h3 h4 h5 h6, fun i hi => ?_⟩
    obtain ⟨o, v, ho, hy, hn⟩ := h.2 i hi
    unfold wpOpIn
    simp only [ho]
    refine hy S a w I ρ _ Q' h1 ⟨h2.1, fun t => by rw [aget_frOn]; split; exact h2.2 t; exact .any _⟩ (h6 ▸ hd0.mono h3 h4.size) (fun u w' I' r1 r2 r3 r4 => ?_)
    obtain ⟨p1, p2⟩ := put_repF (h2.mono r3) r2 o.dst
    exact anyQ_sound S hd0 hQ fuel _ _ _ w' I' r1 p1 (h3.trans r3) (h4.trans r4) (p2.trans h5) ((by cases o.dst <;> rfl : (a.put o.dst u).defers = a.defers).trans h6) hn
theorem anyQ.congr {Q : AFr → Prop} (hQ : ∀ fr fr', FEq fr fr' → Q fr → Q fr') : ∀ (fuel : Nat) (listed : Array Bool) (fr fr' : AFr), FEq fr fr' → anyQ P r K ops L Q fuel listed fr → anyQ P r K ops L Q fuel listed fr'
  | 0, listed, fr, fr', e, h => ⟨h.1, hQ _ _ e h.2⟩
  | fuel + 1, listed, fr, fr', e, h => ⟨fun x => hQ _ _ e (h.1 x), fun i hi => by
    obtain ⟨o, v, ho, hy, hn⟩ := h.2 i hi
    exact ⟨o, v, ho, hy.congr e.1 (fun t _ => e.2 t), anyQ.congr hQ fuel _ _ _ (e.put o.dst v) hn⟩⟩
theorem anyQ_first {Q : AFr → Prop} (hQ : ∀ fr fr', FEq fr fr' → Q fr → Q fr') {i : Nat} {oi : Oper} {v : AV} (hi : ops[i]? = some oi) :
    ∀ (fuel : Nat) (listed : Array Bool) (fr : AFr),
      (∀ (j : Nat) (oj : Oper), ops[j]? = some oj → j ≠ i → listed.getD j true = false → (∀ e ∈ oj.after, Region.binds .any e = true → e.on ≠ i) → oi.apart ops oj = true) →
      i ∈ Region.ready .any ops listed → AY P r K ops L oi fr v →
      anyQ P r K ops L Q fuel (listed.setIfInBounds i true) (aputf oi.dst v fr) → anyQ P r K ops L Q (fuel + 1) listed fr := by
  intro fuel
  induction fuel with
  | zero =>
    intro listed fr _ hr hy H
    refine ⟨fun h => (by rw [h] at hr; cases hr), fun j hj => ?_⟩
    by_cases hji : j = i
    · subst hji; exact ⟨oi, v, hi, hy, H⟩
    · have := ready_mono hj hji
      rw [H.1] at this
      cases this
  | succ fuel ih =>
    intro listed fr hfree hr hy H
    refine ⟨fun h => (by rw [h] at hr; cases hr), fun j hj => ?_⟩
    by_cases hji : j = i
    · subst hji; exact ⟨oi, v, hi, hy, H⟩
    · obtain ⟨oj', u, hoj', hyj, h1⟩ := H.2 j (ready_mono hj hji)
      obtain ⟨hjun, oj, hoj, hall⟩ := mem_ready.1 hj
      rw [hoj] at hoj'
      have eoj := Option.some.inj hoj'
      subst eoj
      have hnot : ∀ e ∈ (oj : Oper).after, Region.binds .any e = true → e.on ≠ i := fun e he hb heq => by
        have h1 := hall e he hb
        have h0 := (mem_ready.1 hr).1
        rw [heq] at h1
        rcases Nat.lt_or_ge i listed.size with h' | h'
        · simp [h'] at h0 h1; rw [h0] at h1; cases h1
        · simp [Array.getElem?_eq_none h'] at h1
      obtain ⟨q1, q2, q3⟩ := Oper.apart_spec (hfree j oj hoj hji hjun hnot)
      have hfree' : ∀ (k : Nat) (ok : Oper), ops[k]? = some ok → k ≠ i → (listed.setIfInBounds j true).getD k true = false →
          (∀ e ∈ ok.after, Region.binds .any e = true → e.on ≠ i) → oi.apart ops ok = true := fun k ok hk hki hun hno => by
        refine hfree k ok hk hki ?_ hno
        by_cases hjk : j = k
        · subst hjk; exact hjun
        · rw [getD_set_ne true hjk] at hun; exact hun
      refine ⟨oj, u, hoj, hyj.congr (aputf_n ..) (fun t ht => ?_), ih (listed.setIfInBounds j true) _ hfree' (ready_mono hr (Ne.symm hji)) (hy.congr (aputf_n ..).symm (fun t ht => ?_)) ?_⟩
      · rw [aget_put, if_neg]
        rintro ⟨hd, _⟩
        exact q1 t hd ht
      · rw [aget_put, if_neg]
        rintro ⟨hd, _⟩
        exact q3 t hd ht
      · rw [Array.setIfInBounds_comm _ _ (Ne.symm hji)] at h1
        exact anyQ.congr hQ _ _ _ _ (put_comm oi.dst oj.dst v u fr q2) h1
/-- In the order of the text. -/
def lexQ (P : Program) (r : Option Nat) (K : Nat) (ops : Array Oper) (L : Store) (Q : AFr → Prop) : List Oper → AFr → Prop
  | [], fr => Q fr
  | o :: rest, fr => ∃ v, AY P r K ops L o fr v ∧ lexQ P r K ops L Q rest (aputf o.dst v fr)
theorem anyQ_lex {Q : AFr → Prop} (hQ : ∀ fr fr', FEq fr fr' → Q fr → Q fr') : ∀ (l : List Oper) (k : Nat) (listed : Array Bool) (fr : AFr), (∀ j, l[j]? = ops[k + j]?) →
    Region.lexFrom .any ops l.length k listed = true → lexQ P r K ops L Q l fr → anyQ P r K ops L Q l.length listed fr
  | [], _, _, _, _, hB, h => ⟨by simpa [Region.lexFrom] using hB, h⟩
  | o :: l, k, listed, fr, hl, hB, h => by
    have h0 : ops[k]? = some o := by simpa using (hl 0).symm
    simp only [List.length_cons, Region.lexFrom, Bool.and_eq_true] at hB
    obtain ⟨⟨hr, hf⟩, hB'⟩ := hB
    obtain ⟨v, hy, hK⟩ := h
    exact anyQ_first hQ h0 l.length listed fr (Region.free_spec h0 hf) (by simpa using hr) hy
      (anyQ_lex hQ l (k + 1) _ _ (fun j => by have := hl (j + 1); simpa [Nat.add_assoc, Nat.add_comm 1 j] using this) hB' hK)
theorem drewN_rel {w w' : World} {I : Nat → Prop} {ρ : List Nat} (hw : w'.heap = w.heap) (ho : w'.os = w.os) (ht : w'.tape = w.tape) (hp : w'.output = w.output) (h : Rel w I ρ L) : Rel w' I ρ L ∧ Le w I ρ w' I ρ ∧ Ev K w I ρ L w' I ρ L := by
  have hle : Le w I ρ w' I ρ := ⟨fun _ _ => by rw [hw], fun _ h => h, fun _ _ h => h, fun b C t h => ⟨C, by rw [hw]; exact h, rfl⟩⟩
  exact ⟨⟨h.len, fun p o b h1 h2 => let ⟨a1, a2, a3⟩ := h.own p o b h1 h2; ⟨by rw [hw]; exact a1, a2, a3.mono hle (by rw [hw])⟩, h.inj, fun b hb => by rw [hw]; exact h.imm b hb⟩, hle,
    ⟨ho, ht, hp, by rw [hw]; exact Nat.le_refl _, fun _ _ _ => by rw [hw], fun _ h => h, fun _ h => .inl h, fun _ h => .inl h, hle.size, fun _ _ => rfl⟩⟩
theorem Tw.draw {id : Nat} {Q : AEx → AFr → Store → Prop} {fr : AFr} (hm : P.follows .mixedOrders = true) (hB : Region.lexB .any ops = true) (hlex : lexQ P r K ops L (fun fr' => ∃ fr'', FEq fr' fr'' ∧ Q .normal fr'' L) ops.toList fr) : Tw P r K (.region id ops true) Q fr L := by
  intro S a w I ρ h1 h2 h3
  simp only [Region.lexB, Bool.and_eq_true] at hB
  have hany := anyQ_lex (ops := ops) (Q := fun fr' => ∃ fr'', FEq fr' fr'' ∧ Q .normal fr'' L) (fun fr fr' e ⟨f2, e2, q⟩ => ⟨f2, ⟨e.1.symm.trans e2.1, fun t => (e.2 t).symm.trans (e2.2 t)⟩, q⟩) ops.toList 0 (Array.replicate ops.size false) fr (by simp) (by simpa using hB.2) hlex
  refine wpIn_region_any hm ?_
  obtain ⟨d1, d2, d3⟩ := drewN_rel (K := K) (w := w) (w' := { w with drawn := w.drawn + 1 }) rfl rfl rfl rfl h1
  have := anyQ_sound (P := P) (r := r) (K := K) (ops := ops) (L := L) (w0 := w) (I0 := I) (a0 := a) (Q' := Post S K Q a w I ρ L) S h3 (fun fr' a' w' I' ⟨f2, e2, q⟩ r1 r2 r3 r4 r5 r6 => ⟨.normal, f2, L, I', ρ, trivial, q, r1, e2.rep r2, by rw [r6]; exact h3.mono r3 r4.size, r4, r5⟩)
    ops.toList.length (Array.replicate ops.size false) fr a _ I d1 (h2.mono d2) d2 d3 rfl rfl hany
  simpa using this
/-- What an operation that only tells a value looks at. -/
theorem pop_congr {o : Oper} {g g' : Operand → AV} {K : AV → Prop} (hg : ∀ x ∈ o.op.operands, g x = g' x) (h : pop P L o g K) : pop P L o g' K := by
  obtain ⟨dst, op, type, pos, after, guard⟩ := o
  unfold pop at h ⊢
  cases op <;> dsimp only at h ⊢ <;> try exact h.elim
  case lookup t x k ok => rw [← hg x (by simp [Op.operands]), ← hg k (by simp [Op.operands])]; exact h
  case entry x => rw [← hg x (by simp [Op.operands])]; exact h
  case move x => rw [← hg x (by simp [Op.operands])]; exact h
  case assign x => rw [← hg x (by simp [Op.operands])]; exact h
  case pick c x y => rw [← hg c (by simp [Op.operands]), ← hg x (by simp [Op.operands]), ← hg y (by simp [Op.operands])]; exact h
  case load t x => rw [← hg x (by simp [Op.operands])]; exact h
  case nilCheck x => rw [← hg x (by simp [Op.operands])]; exact h
  case binOp b t x y t' => rw [← hg x (by simp [Op.operands]), ← hg y (by simp [Op.operands])]; exact h
  case unOp u t x => rw [← hg x (by simp [Op.operands])]; exact h
  case convert s d x => rw [← hg x (by simp [Op.operands])]; exact h
  case makeInterface t x => rw [← hg x (by simp [Op.operands])]; exact h
  case typeAssert x xt t ok => rw [← hg x (by simp [Op.operands])]; exact h
  case makeFunc fn first captured =>
    rw [List.map_congr_left (l := first.toList) (g := g) (fun x hx => (hg x (by simp [Op.operands]; exact .inl (by simpa using hx))).symm),
      List.map_congr_left (l := captured.toList) (g := g) (fun x hx => (hg x (by simp [Op.operands]; exact .inr (by simpa using hx))).symm)]
    exact h
  case slice t x lo hi mx =>
    have h1 : lo.map g' = lo.map g := by cases lo with | none => rfl | some y => simp [← hg y (by simp [Op.operands])]
    have h2 : hi.map g' = hi.map g := by cases hi with | none => rfl | some y => simp [← hg y (by simp [Op.operands])]
    have h3 : mx.map g' = mx.map g := by cases mx with | none => rfl | some y => simp [← hg y (by simp [Op.operands])]
    rw [← hg x (by simp [Op.operands]), h1, h2, h3]
    exact h
  case fieldAddr s x f => rw [← hg x (by simp [Op.operands])]; exact h
  case field t x f => rw [← hg x (by simp [Op.operands])]; exact h
  case indexAddr t x ix => rw [← hg x (by simp [Op.operands]), ← hg ix (by simp [Op.operands])]; exact h
  case index t x ix => rw [← hg x (by simp [Op.operands]), ← hg ix (by simp [Op.operands])]; exact h
  case extract t ix => rw [← hg t (by simp [Op.operands])]; exact h
  case build t parts =>
    rw [List.map_congr_left (l := parts.toList) (g := fun p => (p.1, g p.2)) (fun p hp => by rw [hg p.2 (by simp [Op.operands]; exact ⟨p.1, by simpa using hp⟩)])]
    exact h
  case call c =>
    obtain ⟨callee, args, ats⟩ := c
    cases callee <;> dsimp only at h ⊢ <;> try exact h.elim
    rename_i b
    have hargs : ∀ x ∈ args.toList, g x = g' x := fun x hx => hg x (by simp [Op.operands, Call.operands]; simpa using hx)
    cases b <;> dsimp only at h ⊢ <;> try exact h.elim
    case len =>
      split at h
      · rename_i x t hx ht; rw [← hargs x (by rw [hx]; simp)]; exact h
      · exact h.elim
    case min =>
      split at h
      · rename_i x y hx; rw [← hargs x (by rw [hx]; simp), ← hargs y (by rw [hx]; simp)]; exact h
      · exact h.elim
    case max =>
      split at h
      · rename_i x y hx; rw [← hargs x (by rw [hx]; simp), ← hargs y (by rw [hx]; simp)]; exact h
      · exact h.elim
theorem aval_frOn {o : Oper} {fr : AFr} (x : Operand) (hx : x ∈ o.op.operands) : aval fr x = aval (frOn (o.looksAt ops) fr) x := by
  cases x with
  | tmp t =>
    simp only [aval]
    rw [aget_frOn, if_pos]
    exact List.mem_append_left _ (List.mem_filterMap.2 ⟨.tmp t, by simpa using hx, rfl⟩)
  | _ => rfl
theorem agetD_frOn {o : Oper} {fr : AFr} {j d : Nat} {want : Bool} (hg : o.guard = some (j, want)) (hd : (ops[j]?).bind (·.dst) = some d) : aget (frOn (o.looksAt ops) fr) d = aget fr d := by
  rw [aget_frOn, if_pos]
  refine List.mem_append_right _ ?_
  simp [hg, hd]
end
theorem oper_swap {F : Fence} {n : Nat} {P : Program} {o : Oper} {a : Act} {w : World} {K : Act → World → Prop} {Q Q' : Exit → Act → World → Prop} (h : ∀ e a w, ¬ Q e a w) (hh : o.wpIn F n P a w K Q) : o.wpIn F n P a w K Q' := by
  unfold Oper.wpIn at *
  refine ⟨hh.1, ?_⟩
  have hh := hh.2
  generalize (o.semAt F.round a.eval).run P w = r at *
  cases r with
  | ok x w' =>
    cases x <;> simp only [Oper.uponIn] at hh ⊢ <;>
      first
        | exact hh
        | exact ⟨hh.1, CallsIn.mono hh.2 (fun e w'' he => by cases e <;> first | exact he | exact (h _ _ _ he).elim | (obtain ⟨_, _, he⟩ := he; exact (h _ _ _ he).elim))⟩
        | exact ⟨hh.1, RoundIn.mono hh.2 (fun e w'' he => by cases e <;> first | exact he | exact (h _ _ _ he).elim | (obtain ⟨_, _, he⟩ := he; exact (h _ _ _ he).elim))⟩
  | halt x w' => cases x <;> simp only [Oper.uponIn] at hh ⊢ <;> first | exact hh | exact (h _ _ _ hh).elim
theorem oper_post {F : Fence} {n : Nat} {P : Program} {o : Oper} {a : Act} {w : World} {K : Act → World → Prop} {Q Q' : Exit → Act → World → Prop} (h : ∀ e a w, Q e a w → Q' e a w) (hh : o.wpIn F n P a w K Q) : o.wpIn F n P a w K Q' := by
  unfold Oper.wpIn at *
  refine ⟨hh.1, ?_⟩
  have hh := hh.2
  generalize (o.semAt F.round a.eval).run P w = r at *
  cases r with
  | ok x w' =>
    cases x <;> simp only [Oper.uponIn] at hh ⊢ <;>
      first
        | exact hh
        | exact ⟨hh.1, CallsIn.mono hh.2 (fun e w'' he => by cases e <;> first | exact he | exact h _ _ _ he | (obtain ⟨a1, w1, he⟩ := he; exact ⟨a1, w1, h _ _ _ he⟩))⟩
        | exact ⟨hh.1, RoundIn.mono hh.2 (fun e w'' he => by cases e <;> first | exact he | exact h _ _ _ he | (obtain ⟨a1, w1, he⟩ := he; exact ⟨a1, w1, h _ _ _ he⟩))⟩
  | halt x w' => cases x <;> simp only [Oper.uponIn] at hh ⊢ <;> first | exact hh | exact h _ _ _ hh
theorem ay_yes {P : Program} {r : Option Nat} {K : Nat} {ops : Array Oper} {L : Store} {o : Oper} {fr : AFr} {v : AV} (hw : ∀ (a : Act) (w : World) (I : Nat → Prop) (ρ : List Nat), RepF w I ρ a.tmps (frOn (o.looksAt ops) fr) → Region.wanted o (yielded ops a.tmps) = true)
    (h : OpTw P r K o (fun av L' => av = v ∧ L' = L) (fun _ _ _ => False) (frOn (o.looksAt ops) fr) L) : AY P r K ops L o fr v := by
  intro S a w I ρ nx Q h1 h2 hd h3
  rw [if_pos (hw a w I ρ h2)]
  have hop := h S a w I ρ h1 h2 hd nx (fun u av L' w' I' ρ' ⟨e1, e2⟩ r1 r2 r3 r4 => by
    subst e1 e2
    have : ρ' = ρ := by
      refine List.ext_getElem? fun p => ?_
      rcases Nat.lt_or_ge p ρ.length with hp | hp
      · obtain ⟨b, hb⟩ : ∃ b, ρ[p]? = some b := ⟨ρ[p], by simp [hp]⟩
        rw [hb]; exact r3.rho p b hb
      · have e1 := h1.len
        have e2 := r1.len
        rw [List.getElem?_eq_none hp, List.getElem?_eq_none (by omega)]
    subst this
    exact h3 u w' I' r1 r2 r3 r4)
  exact oper_swap (fun e a' w' hp => by obtain ⟨x, fr', L', I', ρ', hx, q, _⟩ := hp; exact q) hop
theorem ay_no {P : Program} {r : Option Nat} {K : Nat} {ops : Array Oper} {L : Store} {o : Oper} {fr : AFr} (hw : ∀ (a : Act) (w : World) (I : Nat → Prop) (ρ : List Nat), RepF w I ρ a.tmps (frOn (o.looksAt ops) fr) → Region.wanted o (yielded ops a.tmps) = false) : AY P r K ops L o fr (.tup []) := by
  intro S a w I ρ nx Q h1 h2 hd h3
  rw [hw a w I ρ h2]
  exact ⟨fun f _ => fen_fn r f, h3 undef w I h1 (undef_rep ..) (.refl ..) (.refl ..)⟩
/-- The quiet operations of a region, reckoned out in the order of the text. -/
def eqop (A : Ar) (T : TyOps) (P : Program) (op : Op) (fr : AFr) (L : Store) (N : AV → Prop) : Prop :=
  match op with
  | .buildSlice t len parts => ebuildSlice T L t len (parts.toList.map fun p => (p.1, aval fr p.2)) fun v _ => N v
  | .lookup t x k ok => match keyStr T t with
    | true => alookupS P T.u (ezero T) L t (aval fr x) (aval fr k) ok N
    | false => epop A T L op fr N
  | .call c => match c.callee with
    | .value f => match aval fr f with
      | .func (.func g) first captured => Ent P g ∧ ∃ v, TC P g (first ++ (c.args.toList.map (aval fr) ++ captured)) L (fun x L' => x = .ret v ∧ L' = L) ∧ N v
      | _ => False
    | _ => epop A T L op fr N
  | _ => epop A T L op fr N
def eqops (A : Ar) (T : TyOps) (P : Program) (ops : Array Oper) (L : Store) (Q : AFr → Prop) : List Oper → AFr → Prop
  | [], fr => Q fr
  | o :: rest, fr => match o.guard with
    | none => eqop A T P o.op fr L fun av => eqops A T P ops L Q rest (aputf o.dst av fr)
    | some (j, want) => match (ops[j]?).bind (·.dst) with
      | some d => chk (Nat.blt d fr.n) (match aget fr d with
        | .bool b => match b with
          | true => match want with
            | true => eqop A T P o.op (know d true fr) L fun av => eqops A T P ops L Q rest (aputf o.dst av (know d true fr))
            | false => eqops A T P ops L Q rest (aputf o.dst (.tup []) (know d true fr))
          | false => match want with
            | false => eqop A T P o.op (know d false fr) L fun av => eqops A T P ops L Q rest (aputf o.dst av (know d false fr))
            | true => eqops A T P ops L Q rest (aputf o.dst (.tup []) (know d false fr))
        | .tup [] => eqops A T P ops L Q rest (aputf o.dst (.tup []) fr)
        | _ => False)
      | none => False
theorem FEq.symm {fr fr' : AFr} (h : FEq fr fr') : FEq fr' fr := ⟨h.1.symm, fun t => (h.2 t).symm⟩
theorem FEq.trans {fr fr' fr'' : AFr} (h : FEq fr fr') (k : FEq fr' fr'') : FEq fr fr'' := ⟨h.1.trans k.1, fun t => (h.2 t).trans (k.2 t)⟩
theorem lexQ.congr {P : Program} {r : Option Nat} {K : Nat} {ops : Array Oper} {L : Store} {Q : AFr → Prop} (hQ : ∀ fr fr', FEq fr fr' → Q fr → Q fr') : ∀ (l : List Oper) (fr fr' : AFr), FEq fr fr' → lexQ P r K ops L Q l fr → lexQ P r K ops L Q l fr'
  | [], fr, fr', e, h => hQ _ _ e h
  | o :: l, fr, fr', e, ⟨v, hy, h⟩ => ⟨v, hy.congr e.1 (fun t _ => e.2 t), lexQ.congr hQ l _ _ (e.put o.dst v) h⟩
theorem ebuildSlice_N {T : TyOps} {L : Store} {t : TypeId} {len : Nat} {parts : List (Nat × AV)} {N : AV → Prop} (h : ebuildSlice T L t len parts fun v _ => N v) : ∃ v, N v ∧ ebuildSlice T L t len parts fun v' L' => v' = v ∧ L' = L := by
  unfold ebuildSlice at h
  split at h
  · rename_i e hu
    obtain ⟨h1, h2⟩ := chk_iff.1 h
    refine ⟨_, h2, ?_⟩
    unfold ebuildSlice
    simp only [hu]
    exact chk_iff.2 ⟨h1, trivial, trivial⟩
  · exact h.elim
theorem ay_val {P : Program} {r : Option Nat} {K : Nat} {ops : Array Oper} {L : Store} {o : Oper} {fr : AFr} (hw : ∀ (a : Act) (w : World) (I : Nat → Prop) (ρ : List Nat), RepF w I ρ a.tmps (frOn (o.looksAt ops) fr) → Region.wanted o (yielded ops a.tmps) = true)
    {N : AV → Prop} (h : pop P L o (aval fr) N) : ∃ v, AY P r K ops L o fr v ∧ N v := by
  have hd : ∀ c, o.op ≠ .defer c := fun c hc => by unfold pop at h; rw [hc] at h; exact h.elim
  obtain ⟨av, hN, hp⟩ := pop_ok (pop_congr (g' := aval (frOn (o.looksAt ops) fr)) (fun x hx => aval_frOn x hx) h)
  refine ⟨av, ay_yes hw (opTw_value hd ⟨av, L, ⟨rfl, rfl⟩, fun a w I ρ h1 h2 => ?_⟩), hN⟩
  obtain ⟨v, hrun, hv⟩ := hp a w I ρ h1.own h2
  exact ⟨v, w, I, ρ, .inl hrun, h1, hv, .refl .., .refl ..⟩
theorem eqop_ok {A : Ar} {P : Program} {r : Option Nat} {K : Nat} {ops : Array Oper} {L : Store} {o : Oper} {fr : AFr} (hK : K ≤ L.length) (hw : ∀ (a : Act) (w : World) (I : Nat → Prop) (ρ : List Nat), RepF w I ρ a.tmps (frOn (o.looksAt ops) fr) → Region.wanted o (yielded ops a.tmps) = true)
    {N : AV → Prop} (h : eqop A (tyOf P) P o.op fr L N) : ∃ v, AY P r K ops L o fr v ∧ N v := by
  have hmem : ∀ x ∈ o.op.operands, aval fr x = aval (frOn (o.looksAt ops) fr) x := fun x hx => aval_frOn x hx
  unfold eqop at h
  split at h
  · rename_i t len parts ho
    obtain ⟨v, hN, hb⟩ := ebuildSlice_N h
    have e : (parts.toList.map fun p => (p.1, aval fr p.2)) = parts.toList.map fun p => (p.1, aval (frOn (o.looksAt ops) fr) p.2) :=
      List.map_congr_left fun p hp => by rw [hmem p.2 (by rw [ho]; simp [Op.operands]; exact ⟨p.1, by simpa using hp⟩)]
    rw [e] at hb
    exact ⟨v, ay_yes hw (opTw_value (fun c hc => by rw [ho] at hc; cases hc) (wok_buildSlice ho (ebuildSlice_ok hb))), hN⟩
  · rename_i t x k ok ho
    split at h
    · refine ay_val hw ?_
      unfold pop
      simp only [ho]
      exact .inr h
    · exact ay_val hw (epop_ok (A := A) (by rw [ho]; exact ho ▸ h))
  · rename_i c ho
    split at h
    · rename_i f hc
      split at h
      · rename_i g first captured hf
        obtain ⟨h1, v, htc, hN⟩ := h
        obtain ⟨callee, args, ats⟩ := c
        dsimp only at hc
        subst hc
        refine ⟨v, ay_yes hw (opTw_call (f := f) (args := args) (ats := ats) ho hK ?_), hN⟩
        have ef : aval fr f = aval (frOn (o.looksAt ops) fr) f := hmem f (by rw [ho]; simp [Op.operands, Call.operands])
        have ea : args.toList.map (aval fr) = args.toList.map (aval (frOn (o.looksAt ops) fr)) := List.map_congr_left fun x hx => hmem x (by rw [ho]; simp [Op.operands, Call.operands]; exact .inr (by simpa using hx))
        unfold acallv
        rw [← ef, ← ea, hf]
        refine ⟨h1.h, ?_⟩
        have := htc.h
        simp only [List.append_assoc] at this ⊢
        exact this.mono fun x L' hx => by obtain ⟨rfl, rfl⟩ := hx; exact ⟨rfl, rfl⟩
      · exact h.elim
    · exact ay_val hw (epop_ok (A := A) (by rw [ho]; exact ho ▸ h))
  · exact ay_val hw (epop_ok h)
theorem eqops_ok {A : Ar} {P : Program} {r : Option Nat} {K : Nat} {ops : Array Oper} {L : Store} {Q : AFr → Prop} (hK : K ≤ L.length) : ∀ (l : List Oper) (fr : AFr), eqops A (tyOf P) P ops L Q l fr → lexQ P r K ops L (fun fr' => ∃ f2, FEq fr' f2 ∧ Q f2) l fr
  | [], fr, h => ⟨fr, ⟨rfl, fun _ => rfl⟩, h⟩
  | o :: rest, fr, h => by
    simp only [eqops] at h
    have no : ∀ {j d : Nat} {want : Bool} {fr1 : AFr}, FEq fr fr1 → o.guard = some (j, want) → (ops[j]?).bind (·.dst) = some d → d < fr.n → (∀ b, aget fr d = .bool b → b ≠ want) → (aget fr d = .tup [] ∨ ∃ b, aget fr d = .bool b) → eqops A (tyOf P) P ops L Q rest (aputf o.dst (.tup []) fr1) → lexQ P r K ops L (fun fr' => ∃ f2, FEq fr' f2 ∧ Q f2) (o :: rest) fr := by
      intro j d want fr1 hfe hg hd hlt hb hc h
      refine ⟨.tup [], ay_no fun a w I ρ hf => ?_, lexQ.congr (fun fr fr' e ⟨f2, e2, q⟩ => ⟨f2, e.symm.trans e2, q⟩) _ _ _ (hfe.symm.put o.dst (.tup [])) (eqops_ok hK rest _ h)⟩
      have := aguard_ok (ops := ops) (o := o) (yes := False) (no := True) (fr := frOn (o.looksAt ops) fr) (a := a) (w := w) (I := I) (ρ := ρ) (by
        unfold aguard
        simp only [hg, hd]
        refine ⟨hlt, ?_⟩
        rw [agetD_frOn hg hd]
        rcases hc with hc | ⟨b, hc⟩
        · rw [hc]; trivial
        · rw [hc]; exact ⟨fun e => hb b hc e, fun _ => trivial⟩) hf
      rcases this with ⟨_, h⟩ | ⟨h, _⟩
      · exact h.elim
      · exact h
    have yes : ∀ {j d : Nat} {want : Bool} {fr1 : AFr}, FEq fr fr1 → o.guard = some (j, want) → (ops[j]?).bind (·.dst) = some d → d < fr.n → aget fr d = .bool want → eqop A (tyOf P) P o.op fr1 L (fun av => eqops A (tyOf P) P ops L Q rest (aputf o.dst av fr1)) → lexQ P r K ops L (fun fr' => ∃ f2, FEq fr' f2 ∧ Q f2) (o :: rest) fr := by
      intro j d want fr1 hfe hg hd hlt hb h
      obtain ⟨v, hy, hN⟩ := eqop_ok (r := r) (ops := ops) hK (fun a w I ρ hf => by
        have := aguard_ok (ops := ops) (o := o) (yes := True) (no := False) (fr := frOn (o.looksAt ops) fr1) (a := a) (w := w) (I := I) (ρ := ρ) (by
          unfold aguard
          simp only [hg, hd]
          refine ⟨show d < fr1.n by rw [← hfe.1]; exact hlt, ?_⟩
          rw [agetD_frOn hg hd, ← hfe.2, hb]
          exact ⟨fun _ => trivial, fun e' => e' rfl⟩) hf
        rcases this with ⟨h, _⟩ | ⟨_, h⟩
        · exact h
        · exact h.elim) h
      exact ⟨v, hy.congr hfe.1.symm (fun t _ => (hfe.2 t).symm), lexQ.congr (fun fr fr' e ⟨f2, e2, q⟩ => ⟨f2, e.symm.trans e2, q⟩) _ _ _ (hfe.symm.put o.dst v) (eqops_ok hK rest _ hN)⟩
    split at h
    · rename_i hg
      obtain ⟨v, hy, hN⟩ := eqop_ok (r := r) (ops := ops) hK (fun a w I ρ _ => by unfold Region.wanted; simp [hg]) h
      exact ⟨v, hy, eqops_ok hK rest _ hN⟩
    · rename_i j want hg
      split at h
      · rename_i d hd
        obtain ⟨hlt, h⟩ := chk_iff.1 h
        have hlt : d < fr.n := Nat.le_of_ble_eq_true hlt
        split at h
        · rename_i b hb
          cases b <;> cases want <;> simp only at h
          · exact yes (know_eq hb) hg hd hlt hb h
          · exact no (know_eq hb) hg hd hlt (fun b' hb' => by rw [hb] at hb'; cases hb'; simp) (.inr ⟨_, hb⟩) h
          · exact no (know_eq hb) hg hd hlt (fun b' hb' => by rw [hb] at hb'; cases hb'; simp) (.inr ⟨_, hb⟩) h
          · exact yes (know_eq hb) hg hd hlt hb h
        · rename_i hb
          exact no ⟨rfl, fun _ => rfl⟩ hg hd hlt (fun b' hb' => by rw [hb] at hb'; cases hb') (.inl hb) h
        · exact h.elim
      · exact h.elim
/-- A region that draws its order, and whose operations are quiet. -/
theorem TW.draw {A : Ar} {T : TyOps} {P : Program} {r : Option Nat} {K : Nat} {id : Nat} {ops : Array Oper} {Q : AEx → AFr → Store → Prop} {fr : AFr} {L : Store} (hT : T = tyOf P) (hm : P.follows .mixedOrders = true) (hB : Region.lexB .any ops = true) (hK : Nat.ble K L.length = true)
    (h : eqops A T P ops L (fun fr' => Q .normal fr' L) ops.toList fr) : TW P r K (.region id ops true) Q fr L := by
  subst hT
  exact ⟨Tw.draw hm hB (eqops_ok (by simpa using hK) _ _ h)⟩
end Go.Proofs.Ytaieiigfheabfaa.Tw

/-! A range over a function. -/
namespace Go.Proofs.Ytaieiigfheabfaa.Tw
open Go.RowKit
set_option linter.unusedVariables false
set_option linter.unusedSimpArgs false
/-- Behind the function that was ranged over: what the rounds have left. -/
def rangeQ (p : Nat) (fr : AFr) (Q : AEx → AFr → Store → Prop) : AEnd → Store → Prop
  | .ret _, L => match (L[p]?).join with
    | some (.loop st pend _ _ _ _ _) => match st with
      | .busy => False
      | _ => match pend with
        | none => Q .normal fr (L.set p none)
        | some .ret => Q .ret fr (L.set p none)
        | some (.exit id) => Q (.exit id) fr (L.set p none)
        | some (.goto t) => Q (.goto t) fr (L.set p none)
        | _ => False
    | _ => False
  | .pan v, L => Q (.pan v) fr L
theorem Tw.range {P : Program} {K : Nat} {g : Operand} {ps : Array Tmp} {assign body : Code} {Q : AEx → AFr → Store → Prop} {fr : AFr} {L : Store} {gf : FuncId} {first captured : List AV}
    (hg : aval fr g = .func (.func gf) first captured) (hen : enterB P gf = true) (hK : K ≤ L.length)
    (h : TCall P gf (first ++ ([.yield L.length] ++ captured)) (L ++ [some (.loop .ready none fr.n fr.l ps assign body)]) (rangeQ L.length fr Q)) : Tw P none K (.rangeFunc g ps assign body) Q fr L := by
  intro S a w I ρ h1 h2 h3
  have hv := aval_rep h2 g
  rw [hg] at hv
  generalize hve : a.eval g = gv at hv
  cases hv with
  | func _ fs gs _ _ hl hl' hrf hrg =>
    refine wpIn_rangeFunc ?_
    intro fn hfn
    let rec0 : Loop := { state := .ready, pending := none, fn, tmps := a.tmps, params := ps, assign, body, defers := w.heap.size }
    obtain ⟨k1, k2, k3⟩ := alloc_imm (K := L.length) h1 (push_alloc w (.deferred (some [])))
    have hsz : (w.alloc (.deferred (some []))).heap.size = w.heap.size + 1 := (push_alloc w (.deferred (some []))).size
    obtain ⟨m1, m2, m3⟩ := alloc_obj (K := L.length) (o := .loop .ready none fr.n fr.l ps assign body) k1 (push_alloc _ (.loop rec0)) (Nat.le_refl _) (fun hle =>
      ⟨fn, a.tmps, w.heap.size, (push_alloc _ (.loop rec0)).new, h2.1, fun t => ((h2.2 t).mono k2).mono hle⟩)
    rw [hsz] at m1 m2 m3
    have hle1 := k2.trans m2
    have ev1 := k3.trans m3
    obtain ⟨W1, hW1⟩ : ∃ W1, W1 = (w.alloc (.deferred (some []))).alloc (.loop rec0) := ⟨_, rfl⟩
    rw [← hW1] at m1 m2 m3 hle1 ev1
    have hargs : RepL W1 (fun b => I b ∨ b = w.heap.size) (ρ ++ [w.heap.size + 1]) (fs ++ ([.func (.yield (w.heap.size + 1)) #[] #[]] ++ gs)) (first ++ ([.yield L.length] ++ captured)) := by
      refine ⟨by simp [hl, hl'], fun j v c hv hc => ?_⟩
      by_cases q1 : j < fs.length
      · rw [List.getElem?_append_left q1] at hv
        rw [List.getElem?_append_left (by omega)] at hc
        exact (hrf j v c hv hc).mono hle1
      · rw [List.getElem?_append_right (by omega)] at hv
        rw [List.getElem?_append_right (by omega)] at hc
        rw [hl] at hv
        cases hj : j - first.length with
        | zero =>
          rw [hj] at hv hc
          simp at hv hc
          subst hv hc
          exact .yield _ _ (by rw [← h1.len]; simp)
        | succ i =>
          rw [hj] at hv hc
          simp at hv hc
          exact (hrg i v c hv hc).mono hle1
    refine ⟨w.heap.size + 1, [markOf w.heap.size], W1, { target := .fn (.func gf) gs.toArray, args := fs.toArray ++ #[Value.func (.yield (w.heap.size + 1)) #[] #[]] }, W1, gf, (fs ++ ([Value.func (.yield (w.heap.size + 1)) #[] #[]] ++ gs)).toArray, W1, ?_, ?_, fun _ _ => trivial, ?_, (fun h => by cases h), ?_⟩
    · rw [hW1]; exact run_enterLoop_outer _ _ _ _ _
    · simp only [resolve, hve, Deferred.ofValue, rangeCall, Sem.run_pure, Sem.run_bind, Result.andThen_ok]
      simp [Act.eval, go_sem]
    · have : fs.toArray ++ #[Value.func (.yield (w.heap.size + 1)) #[] #[]] ++ gs.toArray = (fs ++ ([Value.func (.yield (w.heap.size + 1)) #[] #[]] ++ gs)).toArray := by
        apply Array.ext'
        simp
      simp only [invoke, this]
      exact run_callFunc hen _ W1
    · refine (h W1 _ _ _ m1 hargs).mono ?_
      rintro e w3 ⟨x, L3, I3, ρ3, hx, hq, r1, hρ, ev⟩
      have ev' : Ev L.length W1 (fun b => I b ∨ b = w.heap.size) (ρ ++ [w.heap.size + 1]) (L ++ [some (.loop .ready none fr.n fr.l ps assign body)]) w3 I3 ρ3 L3 := { ev with rho := fun p hp => ev.rho p (by simp; omega) }
      have evA := ev1.trans ev'
      have hleA := hle1.trans (ev_le ev m1)
      have toK : ∀ {w' I' ρ' L'}, Ev L.length w I ρ L w' I' ρ' L' → Ev K w I ρ L w' I' ρ' L' := fun ev => { ev with rho := fun p hp => ev.rho p (Nat.lt_of_lt_of_le hp hK) }
      have hD : ∀ {w' : World} {I' : Nat → Prop} {ρ' : List Nat}, Le W1 (fun b => I b ∨ b = w.heap.size) (ρ ++ [w.heap.size + 1]) w' I' ρ' → W1.heap.size ≤ w'.heap.size → DefOk S w' I' ([markOf w.heap.size] ++ a.defers) := by
        intro w' I' ρ' hle hs
        obtain ⟨d0, Ds, d1, d2, d3⟩ := h3
        refine ⟨Nat.le_trans d0 (Nat.le_trans ev1.size hs), w.heap.size :: Ds, by rw [d1]; rfl, List.nodup_cons.2 ⟨fun hm => absurd (h1.imm _ (d3 _ hm).2.1) (Nat.lt_irrefl _), d2⟩, fun D hm => ?_⟩
        rcases List.mem_cons.1 hm with rfl | hm
        · refine ⟨d0, hle.imm _ (.inr rfl), (hle.cell _ (.inr rfl)).trans ?_⟩
          rw [hW1, (push_alloc _ (.loop rec0)).lt (by rw [hsz]; omega)]
          exact (push_alloc w _).new
        · obtain ⟨e1, e2, e3⟩ := d3 D hm
          exact ⟨e1, hle.imm _ (.inl e2), (hle.cell _ (.inl e2)).trans ((hle1.cell _ e2).trans e3)⟩
      cases e with
      | outgrown => cases x <;> exact hx.elim
      | panicked ch =>
        cases x with
        | ret _ => exact hx.elim
        | pan av =>
          exact ⟨.pan av, fr, L3, I3, ρ3, hx, hq, r1, h2.mono hleA, hD (ev_le ev m1) ev.size, toK evA, rfl⟩
      | returned v =>
        cases x with
        | pan _ => exact hx.elim
        | ret av =>
          simp only [rangeQ] at hq
          split at hq
          case h_2 => exact hq.elim
          rename_i st pend n3 l3 ps3 as3 bd3 hL3
          have hb3 : ρ3[L.length]? = some (w.heap.size + 1) := by
            rw [ev.rho L.length (by simp), ← h1.len]; simp
          obtain ⟨rec, t1, t2, t3, t4, t5, t6, t7, t8, t9, t10⟩ := put_loop (K := L.length) r1 (oneat hL3) hb3 .exhausted pend
          have hst : rec.state ≠ .busy := by
            rw [t2]
            intro e
            subst e
            exact hq.elim
          subst t3
          have t8' := t8.kill L.length
          have ev4 := (evA.trans t10).trans (Ev.kill (K := L.length) (w := w3.putObj (w.heap.size + 1) (.loop { rec with state := .exhausted })) (I := I3) (ρ := ρ3) L.length)
          rw [List.set_set] at t8' ev4
          have hle4 := hleA.trans t9
          have hD4 := hD ((ev_le ev m1).trans t9) (Nat.le_trans ev.size t10.size)
          refine ⟨rec.pending, _, run_endLoop t1 hst, ?_⟩
          have fin : ∀ (e : Exit) (x : AEx), ExRel (w3.putObj (w.heap.size + 1) (.loop { rec with state := .exhausted })) I3 ρ3 e x → Q x fr (L3.set L.length none) →
              Post S K Q a w I ρ L e { a with defers := [markOf w.heap.size] ++ a.defers } (w3.putObj (w.heap.size + 1) (.loop { rec with state := .exhausted })) :=
            fun e x hx hq => ⟨x, fr, L3.set L.length none, I3, ρ3, hx, hq, t8', h2.mono hle4, hD4, toK ev4, rfl⟩
          have hq' : match rec.pending with
            | none => Q .normal fr (L3.set L.length none)
            | some .ret => Q .ret fr (L3.set L.length none)
            | some (.exit id) => Q (.exit id) fr (L3.set L.length none)
            | some (.goto t) => Q (.goto t) fr (L3.set L.length none)
            | _ => False := by
            revert hq
            cases st <;> intro hq <;> first | exact hq.elim | exact hq
          cases hpd : rec.pending with
          | none => rw [hpd] at hq' fin; exact fin .normal .normal trivial hq'
          | some c =>
            rw [hpd] at hq' fin
            cases c with
            | ret => exact wpIn_ret (fin .ret .ret trivial hq')
            | exit id => exact wpIn_exit (fin (.exit id) (.exit id) rfl hq')
            | goto t => exact wpIn_goto (fin (.goto t) (.goto t) rfl hq')
            | _ => exact hq'.elim
/-- The statement, as a thing to be shown. -/
theorem TW.range {P : Program} {K : Nat} {g : Operand} {ps : Array Tmp} {assign body : Code} {Q : AEx → AFr → Store → Prop} {fr : AFr} {L : Store} {gf : FuncId} {first captured : List AV}
    (hg : aval fr g = .func (.func gf) first captured) (hK : Nat.ble K L.length = true) (hen : Ent P gf)
    (h : TC P gf (first ++ ([.yield L.length] ++ captured)) (L ++ [some (.loop .ready none fr.n fr.l ps assign body)]) (rangeQ L.length fr Q)) : TW P none K (.rangeFunc g ps assign body) Q fr L :=
  ⟨Tw.range hg hen.h (by simpa using hK) h.h⟩
end Go.Proofs.Ytaieiigfheabfaa.Tw

/-! Handles for walks that are reckoned out. -/
namespace Go.Proofs.Ytaieiigfheabfaa.Tw
open Go.RowKit
set_option linter.unusedVariables false
set_option linter.unusedSimpArgs false
/-- A loop's round has ended; the next one begins. -/
structure LQ (K : Nat) (J : Nat → AFr → Store → Prop) (n : Nat) (fr : AFr) (L : Store) : Prop where
  h : ∃ m fr'' L'', m < n ∧ VS K fr L fr'' L'' ∧ J m fr'' L''
theorem TW.loopE (A : Ar) {T : TyOps} {P : Program} {r : Option Nat} {K : Nat} {c : Code} {Q : AEx → AFr → Store → Prop} {fr : AFr} {L : Store} (hT : T = tyOf P) (J : Nat → AFr → Store → Prop) {n0 : Nat} {fr0 : AFr} {L0 : Store} (hv : VS K fr L fr0 L0) (h0 : J n0 fr0 L0)
    (round : ∀ n fr L, J n fr L → ewp A T P r K c (thenQ (LQ K J n) Q) fr L) : TW P r K (.loop c) Q fr L := by
  subst hT
  exact ⟨Tw.loop J hv h0 fun n fr L h => (Tw.of_ewp _ _ _ _ (round n fr L h)).mono fun e fr L hq => by
    cases e <;> first | exact hq | exact hq.h⟩
/-- An argument of a callee is what it is. -/
theorem VS.pick {K : Nat} {fr : AFr} {L : Store} {n : Nat} {l : List (Nat × AV)} (hn : fr.n = n) (h : SubL fr l) : VS K fr L ⟨n, l⟩ L := hn ▸ VS.sub h
/-- Of a pure function: its contract. -/
theorem TPure.of {P : Program} {f : FuncId} {args : List AV} {r : AV} (h : TC P f args [] fun x L' => x = .ret r ∧ L' = []) : TPure P f args r := h.h.pure
theorem TC.pure {P : Program} {f : FuncId} {args : List AV} {r : AV} {L : Store} {R : AEnd → Store → Prop} (h : TPure P f args r) (hp : purL args = true) (hr : R (.ret r) L) : TC P f args L R := ⟨h.call hp hr⟩
/-- What lies at place q lies at place n from here on. -/
inductive Mv (q n : Nat) : AV → AV → Prop
  | keep (a : AV) (h : a.upto n = true) : Mv q n a a
  | row (w off k : Nat) : Mv q n (.row q w off k) (.row n w off k)
  | ref (w i f : Nat) : Mv q n (.ref q w i f) (.ref n w i f)
  | tup (cs ds : List AV) (hl : cs.length = ds.length) (h : ∀ (j : Nat) (c d : AV), cs[j]? = some c → ds[j]? = some d → Mv q n c d) : Mv q n (.tup cs) (.tup ds)
theorem Mv.rep {q n b : Nat} {w : World} {I : Nat → Prop} {ρ : List Nat} (hn : n ≤ ρ.length) (hb : ρ[q]? = some b) {a c : AV} (h : Mv q n a c) : ∀ {v : Value}, Rep w I ρ v a → Rep w I (ρ.take n ++ [b]) v c := by
  have hlast : (ρ.take n ++ [b])[n]? = some b := by rw [List.getElem?_append_right (by simp; omega)]; simp [Nat.min_eq_left hn]
  have hle : Le w I (ρ.take n) w I (ρ.take n ++ [b]) := ⟨fun _ _ => rfl, fun _ h => h, fun _ _ h => rho_app h, fun _ C _ h => ⟨C, h, rfl⟩⟩
  induction h with
  | keep a h => exact fun hv => (hv.take n h).mono hle
  | row wd off k =>
    intro v hv
    cases hv with
    | row _ _ _ _ b' c C t hb' hn hB hC => rw [hb] at hb'; cases hb'; exact .row n wd off k b c C t hlast hn hB hC
  | ref wd i f =>
    intro v hv
    cases hv with
    | ref _ _ _ _ b' hb' => rw [hb] at hb'; cases hb'; exact .ref n wd i f b hlast
  | tup cs ds hl h ih =>
    intro v hv
    cases hv with
    | tup vs _ hl' hr =>
      exact .tup vs ds (hl'.trans hl) fun j u d hu hd => by
        have hlt := (List.getElem?_eq_some_iff.1 hd).1
        have hc : cs[j]? = some (cs[j]'(by omega)) := List.getElem?_eq_getElem (by omega)
        exact ih j _ d hc hd (hr j u _ hu hc)
inductive MvL (q n : Nat) (fr : AFr) : List (Nat × AV) → Prop
  | nil : MvL q n fr []
  | cons {t : Nat} {v : AV} {l : List (Nat × AV)} (h : Mv q n (aget fr t) v) (k : MvL q n fr l) : MvL q n fr ((t, v) :: l)
theorem MvL.get {q n : Nat} {fr : AFr} {l : List (Nat × AV)} (h : MvL q n fr l) (t : Nat) : agetL l t = .any ∨ Mv q n (aget fr t) (agetL l t) := by
  induction h with
  | nil => exact .inl rfl
  | cons h k ih =>
    simp only [agetL]
    split
    · rename_i e; subst e; exact .inr h
    · exact ih
/-- The newest object is moved down; what lay in between is forgotten. -/
theorem VS.settle {K m : Nat} {fr : AFr} {L : Store} {l : List (Nat × AV)} {o : AO} (q n : Nat) (hm : fr.n = m) (hK : K ≤ n) (hq : n ≤ L.length) (ho : L[q]? = some (some o)) (hu : o.upto n = true) (hL : ((L.set q none).take n).all (oUpto n) = true) (h : MvL q n fr l) : VS K fr L ⟨m, l⟩ ((L.set q none).take n ++ [some o]) := fun w I ρ tmps h1 h2 => by
  have hql := (List.getElem?_eq_some_iff.1 ho).1
  have hlen := h1.len
  obtain ⟨b, hb⟩ : ∃ b, ρ[q]? = some b := ⟨_, List.getElem?_eq_getElem (by omega)⟩
  have hnl : n ≤ ρ.length := by omega
  have hle : Le w I (ρ.take n) w I (ρ.take n ++ [b]) := ⟨fun _ _ => rfl, fun _ h => h, fun _ _ h => rho_app h, fun _ C _ h => ⟨C, h, rfl⟩⟩
  have cs : ∀ (p : Nat) (x : AO) (c : Nat), ((L.set q none).take n ++ [some o])[p]? = some (some x) → (ρ.take n ++ [b])[p]? = some c → (p ≠ q ∧ p < n ∧ L[p]? = some (some x) ∧ ρ[p]? = some c ∧ x.upto n = true) ∨ (p = n ∧ x = o ∧ c = b) := by
    intro p x c h3 h4
    by_cases hp : p < n
    · rw [List.getElem?_append_left (by simp; omega)] at h3
      rw [List.getElem?_append_left (by simp; omega)] at h4
      have hx := List.all_eq_true.1 hL _ (List.mem_of_getElem? h3)
      rw [List.getElem?_take, if_pos hp] at h3 h4
      obtain ⟨h3, hne⟩ := set_none h3
      exact .inl ⟨hne, hp, h3, h4, hx⟩
    · have e1 : ((L.set q none).take n).length = n := by simp; omega
      have e2 : (ρ.take n).length = n := by simp; omega
      rw [List.getElem?_append_right (by omega), e1] at h3
      rw [List.getElem?_append_right (by omega), e2] at h4
      have : p - n = 0 := by
        have := (List.getElem?_eq_some_iff.1 h3).1
        simp at this
        omega
      rw [this] at h3 h4
      simp at h3 h4
      exact .inr ⟨by omega, h3.symm, h4.symm⟩
  refine ⟨I, ρ.take n ++ [b], fun _ h => h, fun _ h => .inl h, fun c ⟨p, x, h3, h4⟩ => ?_, fun p hp => ?_, ⟨by simp; omega, fun p x c h3 h4 => ?_, fun p p' x y c h3 h4 h5 h6 => ?_, h1.imm⟩, h2.1.trans hm, fun t => ?_⟩
  · rcases cs p x c h3 h4 with ⟨_, _, q1, q2, _⟩ | ⟨rfl, rfl, rfl⟩
    · exact ⟨p, x, q1, q2⟩
    · exact ⟨q, _, ho, hb⟩
  · rw [List.getElem?_append_left (by simp; omega), List.getElem?_take, if_pos (by omega)]
  · rcases cs p x c h3 h4 with ⟨_, _, q1, q2, q3⟩ | ⟨rfl, rfl, rfl⟩
    · obtain ⟨a1, a2, a3⟩ := h1.own p x c q1 q2
      exact ⟨a1, a2, (a3.take n q3).mono hle rfl⟩
    · obtain ⟨a1, a2, a3⟩ := h1.own q _ c ho hb
      exact ⟨a1, a2, (a3.take p hu).mono hle rfl⟩
  · rcases cs p x c h3 h5 with ⟨k0, k1, q1, q2, q3⟩ | ⟨rfl, rfl, rfl⟩ <;> rcases cs p' y c h4 h6 with ⟨k0', k1', q1', q2', q3'⟩ | ⟨e1, e2, e3⟩
    · exact h1.inj p p' x y c q1 q1' q2 q2'
    · subst e3; exact absurd (h1.inj p q x o _ q1 ho q2 hb) k0
    · exact absurd (h1.inj p' q y _ _ q1' ho q2' hb) k0'
    · omega
  · rcases h.get t with e | e
    · show Rep w I _ _ (agetL l t); rw [e]; exact .any _
    · exact e.rep hnl hb (h2.2 t)
theorem VSV.settle {K : Nat} {v v' : AV} {L : Store} {o : AO} (q n : Nat) (hK : K ≤ n) (hq : n ≤ L.length) (ho : L[q]? = some (some o)) (hu : o.upto n = true) (hL : ((L.set q none).take n).all (oUpto n) = true) (h : Mv q n v v') : VSV K v L v' ((L.set q none).take n ++ [some o]) :=
  VS.settle q n rfl hK hq ho hu hL (.cons (by simpa [aget, agetL] using h) .nil)
/-- Arguments, one by one. -/
inductive RnL (π : List Nat) : List AV → List AV → Prop
  | nil : RnL π [] []
  | cons {a b : AV} {as bs : List AV} (h : Rn π a b) (k : RnL π as bs) : RnL π (a :: as) (b :: bs)
theorem RnL.len {π : List Nat} {as bs : List AV} (h : RnL π as bs) : as.length = bs.length := by induction h with | nil => rfl | cons _ _ ih => simp [ih]
theorem RnL.get {π : List Nat} {as bs : List AV} (h : RnL π as bs) : ∀ (j : Nat) (a b : AV), as[j]? = some a → bs[j]? = some b → Rn π a b := by
  induction h with
  | nil => intro j a b h; simp at h
  | cons h k ih =>
    intro j a b h1 h2
    cases j with
    | zero => simp at h1 h2; subst h1 h2; exact h
    | succ j => exact ih j a b (by simpa using h1) (by simpa using h2)
theorem RnO.pure {π : List Nat} {w : Nat} {els : List AV} (h : purL els = true) : RnO π (.arr w els) (.arr w els) := .arr w els els rfl fun i e f he hf => by
  rw [he] at hf; cases hf
  refine ⟨rfl, fun j c d hc hd => ?_⟩
  rw [hc] at hd; cases hd
  exact .pure (pur_cells (purL_mem h (List.mem_of_getElem? he)) (List.mem_of_getElem? hc))
/-- A call that is handed one row of ours, and hands it back. -/
theorem TC.row {P : Program} {f : FuncId} {args args' : List AV} {w n' q : Nat} {els els' : List AV} {L : Store} {R' : AEnd → Store → Prop} (h : TC P f args [some (.arr w els)] (fun x L' => x = .ret (.row 1 w 0 n') ∧ L' = [none, some (.arr w els')]))
    (hq : L[q]? = some (some (.arr w els))) (hp : purL els = true) (hp' : purL els' = true) (hargs : RnL [q] args args') (hR : R' (.ret (.row L.length w 0 n')) (L.set q none ++ [some (.arr w els')])) : TC P f args' L R' := by
  have hql := (List.getElem?_eq_some_iff.1 hq).1
  refine ⟨TCall.frame [q] h.h (by simp) rfl (fun i p hi => ?_) hargs.len hargs.get ?_⟩
  · cases i with
    | zero =>
      simp at hi; subst hi
      exact ⟨hql, fun o ho => ⟨_, hq, by simp at ho; subst ho; exact .pure hp⟩⟩
    | succ i => simp at hi
  · rintro x L' _ ⟨rfl, rfl⟩
    have hn : news L [q] [none, some (.arr w els')] = [q, L.length] := by simp [news]
    rw [hn]
    have hm : mergeL L [q] [q, L.length] [none, some (.arr w els')] = L.set q none ++ [some (.arr w els')] := by
      simp only [mergeL]
      congr 1
      · refine List.ext_getElem? fun k => ?_
        rw [List.getElem?_map, List.getElem?_set]
        by_cases hk : k < L.length
        · rw [List.getElem?_range hk]
          by_cases e : q = k
          · subst e; simp [hk, List.idxOf?, List.findIdx?_cons]
          · have : ([q] : List Nat).idxOf? k = none := by simp [List.idxOf?, List.findIdx?_cons, e]
            simp only [Option.map_some, this]
            rw [if_neg e]
            cases hx : L[k]? with
            | none => have := List.getElem?_eq_none_iff.1 hx; omega
            | some x => simp
        · rw [List.getElem?_eq_none (by simp; omega)]
          rw [if_neg (by omega), List.getElem?_eq_none (by omega)]
          rfl
      · simp [AO.ren, renL_pur _ els' hp']
    rw [hm]
    exact hR
/-- A call that hands back a new row of ours. -/
theorem TC.row0 {P : Program} {f : FuncId} {args args' : List AV} {w n' : Nat} {els' : List AV} {L : Store} {R' : AEnd → Store → Prop} (h : TC P f args [] (fun x L' => x = .ret (.row 0 w 0 n') ∧ L' = [some (.arr w els')]))
    (hp' : purL els' = true) (hargs : RnL [] args args') (hR : R' (.ret (.row L.length w 0 n')) (L ++ [some (.arr w els')])) : TC P f args' L R' := by
  refine ⟨TCall.frame [] h.h (by simp) rfl (fun i p hi => by simp at hi) hargs.len hargs.get ?_⟩
  rintro x L' _ ⟨rfl, rfl⟩
  have hn : news L [] [some (.arr w els')] = [L.length] := by simp [news]
  rw [hn]
  have hm : mergeL L [] [L.length] [some (.arr w els')] = L ++ [some (.arr w els')] := by
    simp only [mergeL]
    congr 1
    · refine List.ext_getElem? fun k => ?_
      rw [List.getElem?_map]
      by_cases hk : k < L.length
      · rw [List.getElem?_range hk]
        have : ([] : List Nat).idxOf? k = none := by simp
        simp only [Option.map_some, this]
        cases hx : L[k]? with
        | none => have := List.getElem?_eq_none_iff.1 hx; omega
        | some x => simp
      · rw [List.getElem?_eq_none (by simp; omega), List.getElem?_eq_none (by omega)]
        rfl
    · simp [AO.ren, renL_pur _ els' hp']
  rw [hm]
  exact hR
theorem Ent.of {P : Program} {f : FuncId} {fn : Func} (hf : P.funcs[f]? = some fn) (h : (fn.name != "runtime.NumGoroutine" && fn.body.isSome) = true) : Ent P f := ⟨by unfold enterB; rw [hf]; exact h⟩
/-! Laws of the arithmetic that was not reckoned out, as they are met. -/
section
variable {A : Ar} {a b a' b' : Int}
theorem lt_t (h : A.lt a b = true) (ha : a = a') (hb : b = b') : a' < b' := by subst ha hb; rw [A.ok_lt] at h; simpa using h
theorem lt_f (h : A.lt a b = false) (ha : a = a') (hb : b = b') : b' ≤ a' := by subst ha hb; rw [A.ok_lt] at h; simpa using h
theorem le_t (h : A.le a b = true) (ha : a = a') (hb : b = b') : a' ≤ b' := by subst ha hb; rw [A.ok_le] at h; simpa using h
theorem le_f (h : A.le a b = false) (ha : a = a') (hb : b = b') : b' < a' := by subst ha hb; rw [A.ok_le] at h; simpa using h
theorem eq_t (h : A.eq a b = true) (ha : a = a') (hb : b = b') : a' = b' := by subst ha hb; rw [A.ok_eq] at h; simpa using h
theorem eq_f (h : A.eq a b = false) (ha : a = a') (hb : b = b') : a' ≠ b' := by subst ha hb; rw [A.ok_eq] at h; simpa using h
theorem ne_t (h : A.bnot (A.eq a b) = true) (ha : a = a') (hb : b = b') : a' ≠ b' := by subst ha hb; rw [A.ok_bnot, A.ok_eq] at h; simpa using h
theorem ne_f (h : A.bnot (A.eq a b) = false) (ha : a = a') (hb : b = b') : a' = b' := by subst ha hb; rw [A.ok_bnot, A.ok_eq] at h; simpa using h
theorem not_t {b : Bool} (h : (match b with | true => false | false => true) = true) : b = false := by cases b <;> simp at h ⊢
theorem not_f {b : Bool} (h : (match b with | true => false | false => true) = false) : b = true := by cases b <;> simp at h ⊢
theorem seq_t {x y : ByteArray} (h : A.seq x y = true) : strEq x y = true := by rwa [A.ok_seq] at h
theorem seq_f {x y : ByteArray} (h : A.seq x y = false) : strEq x y = false := by rwa [A.ok_seq] at h
theorem wrap_i64 {x : Int} (h1 : -9223372036854775808 ≤ x) (h2 : x ≤ 9223372036854775807) : IntKind.i64.wrap x = x := by
  simp only [IntKind.wrap, IntKind.signed, IntKind.bits, Bool.true_and]
  split <;> rename_i h <;> simp at h <;> omega
theorem add_i64 (ha : a = a') (hb : b = b') (h1 : -9223372036854775808 ≤ a' + b') (h2 : a' + b' ≤ 9223372036854775807) : A.op .add .i64 a b = a' + b' := by subst ha hb; rw [A.ok_add, wrap_i64 h1 h2]
theorem sub_i64 (ha : a = a') (hb : b = b') (h1 : -9223372036854775808 ≤ a' - b') (h2 : a' - b' ≤ 9223372036854775807) : A.op .sub .i64 a b = a' - b' := by subst ha hb; rw [A.ok_sub, wrap_i64 h1 h2]
theorem lt_nt {i j : Nat} (h : A.lt a b = true) (ha : a = (i : Int)) (hb : b = (j : Int)) : i < j := Int.ofNat_lt.1 (lt_t h ha hb)
theorem lt_nf {i j : Nat} (h : A.lt a b = false) (ha : a = (i : Int)) (hb : b = (j : Int)) : j ≤ i := Int.ofNat_le.1 (lt_f h ha hb)
theorem le_nt {i j : Nat} (h : A.le a b = true) (ha : a = (i : Int)) (hb : b = (j : Int)) : i ≤ j := Int.ofNat_le.1 (le_t h ha hb)
theorem le_nf {i j : Nat} (h : A.le a b = false) (ha : a = (i : Int)) (hb : b = (j : Int)) : j < i := Int.ofNat_lt.1 (le_f h ha hb)
theorem Sub.eq {x y : AV} (h : x = y) : Sub x y := h ▸ Sub.refl _
theorem Sub.int {k : IntKind} (h : a = b) : Sub (.int k a) (.int k b) := h ▸ Sub.refl _
theorem inc_eq (A : Ar) {i : Nat} (h : i < 9223372036854775807) : A.op .add .i64 (Int.ofNat i) 1 = ((i + 1 : Nat) : Int) :=
  (add_i64 (A := A) (a := Int.ofNat i) (b := 1) (a' := (i : Int)) (b' := 1) rfl rfl (by omega) (by omega)).trans (by simp)
theorem Rn.int {π : List Nat} {k : IntKind} (h : a = b) : Rn π (.int k a) (.int k b) := h ▸ .pure rfl
theorem Sub.inc (A : Ar) {i : Nat} (h : i < 9223372036854775807) : Sub (.int .i64 (A.op .add .i64 (Int.ofNat i) 1)) (.int .i64 ((i + 1 : Nat) : Int)) :=
  Sub.int ((add_i64 (A := A) (a := Int.ofNat i) (b := 1) (a' := (i : Int)) (b' := 1) rfl rfl (by omega) (by omega)).trans (by simp))
end
end Go.Proofs.Ytaieiigfheabfaa.Tw
