import Derived.Test.YtpjibokaeefhiaaTwT
/-! Regions that draw their order, one of whose operations lays a new cell, and whose last writes. -/
namespace Go.Proofs.Ytpjibokaeefhiaa.Tw
open Go.RowKit
set_option linter.unusedVariables false
set_option linter.unusedSimpArgs false
section
variable {P : Program} {r : Option Nat} {K : Nat} {ops : Array Oper} {L L1 : Store} {z : Nat} {Z : AFr → Prop} {Y : Nat → Oper → AFr → AV → Prop}
/-- Whatever order is picked; the operation at place z is the last. -/
def anyV (ops : Array Oper) (z : Nat) (Z : AFr → Prop) (Y : Nat → Oper → AFr → AV → Prop) : Nat → Array Bool → AFr → Prop
  | 0, _, _ => False
  | fuel + 1, listed, fr => Region.ready .any ops listed ≠ [] ∧ ∀ i ∈ Region.ready .any ops listed,
    (i = z ∧ Region.ready .any ops (listed.setIfInBounds z true) = [] ∧ Z fr) ∨ (i ≠ z ∧ ∃ o v, ops[i]? = some o ∧ Y i o fr v ∧ anyV ops z Z Y fuel (listed.setIfInBounds i true) (aputf o.dst v fr))
theorem anyV.congr (hYc : ∀ (i : Nat) (o : Oper) (fr fr' : AFr) (v : AV), fr.n = fr'.n → (∀ t, t ∈ o.looksAt ops → aget fr t = aget fr' t) → Y i o fr v → Y i o fr' v) (hZ : ∀ fr fr', FEq fr fr' → Z fr → Z fr') : ∀ (fuel : Nat) (listed : Array Bool) (fr fr' : AFr), FEq fr fr' → anyV ops z Z Y fuel listed fr → anyV ops z Z Y fuel listed fr'
  | 0, _, _, _, _, h => h
  | fuel + 1, listed, fr, fr', e, h => ⟨h.1, fun i hi => (h.2 i hi).imp (fun ⟨a, b, c⟩ => ⟨a, b, hZ _ _ e c⟩) fun ⟨a, o, v, ho, hy, hn⟩ => ⟨a, o, v, ho, hYc _ _ _ _ _ e.1 (fun t _ => e.2 t) hy, anyV.congr hYc hZ fuel _ _ _ (e.put o.dst v) hn⟩⟩
theorem anyV_first (hYc : ∀ (i : Nat) (o : Oper) (fr fr' : AFr) (v : AV), fr.n = fr'.n → (∀ t, t ∈ o.looksAt ops → aget fr t = aget fr' t) → Y i o fr v → Y i o fr' v) (hZ : ∀ fr fr', FEq fr fr' → Z fr → Z fr') (hB : tailB ops z = true) {i : Nat} {oi : Oper} {v : AV} (hi : ops[i]? = some oi) (hiz : i < z) :
    ∀ (fuel : Nat) (listed : Array Bool) (fr : AFr), Closed ops listed →
      (∀ (j : Nat) (oj : Oper), ops[j]? = some oj → j ≠ i → listed.getD j true = false → (∀ e ∈ oj.after, Region.binds .any e = true → e.on ≠ i) → oi.apart ops oj = true) →
      i ∈ Region.ready .any ops listed → Y i oi fr v →
      anyV ops z Z Y fuel (listed.setIfInBounds i true) (aputf oi.dst v fr) → anyV ops z Z Y (fuel + 1) listed fr := by
  intro fuel
  induction fuel with
  | zero => intro listed fr _ _ _ _ H; exact H.elim
  | succ fuel ih =>
    intro listed fr hcl hfree hr hy H
    refine ⟨fun h => (by rw [h] at hr; cases hr), fun j hj => ?_⟩
    have hun := (mem_ready.1 hr).1
    by_cases hji : j = i
    · subst hji; exact .inr ⟨by omega, oi, v, hi, hy, H⟩
    · by_cases hjz : j = z
      · subst hjz
        have := tail_last hB hcl hj i hiz
        rcases Nat.lt_or_ge i listed.size with h' | h'
        · simp [h'] at this hun; rw [this] at hun; cases hun
        · simp [Array.getElem?_eq_none h'] at hun
      · refine .inr ⟨hjz, ?_⟩
        obtain h1 | ⟨_, oj', u, hoj', hyj, h1⟩ := H.2 j (ready_mono hj hji)
        · exact absurd h1.1 hjz
        obtain ⟨hjun, oj, hoj, hall⟩ := mem_ready.1 hj
        rw [hoj] at hoj'
        have eoj := Option.some.inj hoj'
        subst eoj
        have hnot : ∀ e ∈ (oj : Oper).after, Region.binds .any e = true → e.on ≠ i := fun e he hb heq => by
          have h1 := hall e he hb
          rw [heq] at h1
          rcases Nat.lt_or_ge i listed.size with h' | h'
          · simp [h'] at hun h1; rw [hun] at h1; cases h1
          · simp [Array.getElem?_eq_none h'] at h1
        obtain ⟨q1, q2, q3⟩ := Oper.apart_spec (hfree j oj hoj hji hjun hnot)
        have hfree' : ∀ (k : Nat) (ok : Oper), ops[k]? = some ok → k ≠ i → (listed.setIfInBounds j true).getD k true = false →
            (∀ e ∈ ok.after, Region.binds .any e = true → e.on ≠ i) → oi.apart ops ok = true := fun k ok hk hki hun hno => by
          refine hfree k ok hk hki ?_ hno
          by_cases hjk : j = k
          · subst hjk; exact hjun
          · rw [getD_set_ne true hjk] at hun; exact hun
        refine ⟨oj, u, hoj, hYc _ _ _ _ _ (aputf_n ..) (fun t ht => ?_) hyj, ih (listed.setIfInBounds j true) _ (hcl.set hj) hfree' (ready_mono hr (Ne.symm hji)) (hYc _ _ _ _ _ (aputf_n ..).symm (fun t ht => ?_) hy) ?_⟩
        · rw [aget_put, if_neg]
          rintro ⟨hd, _⟩
          exact q1 t hd ht
        · rw [aget_put, if_neg]
          rintro ⟨hd, _⟩
          exact q3 t hd ht
        · rw [Array.setIfInBounds_comm _ _ (Ne.symm hji)] at h1
          exact anyV.congr hYc hZ _ _ _ _ (put_comm oi.dst oj.dst v u fr q2) h1
/-- In the order of the text. -/
def lexV (Z : AFr → Prop) (Y : Nat → Oper → AFr → AV → Prop) : Nat → List Oper → AFr → Prop
  | _, [], fr => Z fr
  | k, o :: rest, fr => ∃ v, Y k o fr v ∧ lexV Z Y (k + 1) rest (aputf o.dst v fr)
theorem anyV_lex (hYc : ∀ (i : Nat) (o : Oper) (fr fr' : AFr) (v : AV), fr.n = fr'.n → (∀ t, t ∈ o.looksAt ops → aget fr t = aget fr' t) → Y i o fr v → Y i o fr' v) (hZ : ∀ fr fr', FEq fr fr' → Z fr → Z fr') (hB : tailB ops z = true) (hz : z + 1 = ops.size) : ∀ (l : List Oper) (k : Nat) (listed : Array Bool) (fr : AFr), k + l.length = z → (∀ j, j < l.length → l[j]? = ops[k + j]?) → Closed ops listed → (∀ i, i < k → listed.getD i true = true) →
    Region.lexFrom .any ops (l.length + 1) k listed = true → lexV Z Y k l fr → anyV ops z Z Y (l.length + 1) listed fr
  | [], k, listed, fr, hk, _, _, hlt, hL, h => by
    simp only [List.length_nil, Region.lexFrom, Bool.and_eq_true] at hL
    obtain ⟨⟨hr, _⟩, he⟩ := hL
    simp only [List.length_nil, Nat.add_zero] at hk
    subst hk
    refine ⟨fun h0 => by rw [h0] at hr; simp at hr, fun i hi => .inl ⟨?_, by simpa using he, h⟩⟩
    obtain ⟨h1, o, ho, _⟩ := mem_ready.1 hi
    have hlt' := (Array.getElem?_eq_some_iff.1 ho).1
    rcases Nat.lt_trichotomy i k with h2 | h2 | h2
    · rw [hlt i h2] at h1; cases h1
    · exact h2
    · omega
  | o :: l, k, listed, fr, hk, hl, hcl, hlt, hL, h => by
    have h0 : ops[k]? = some o := by simpa using (hl 0 (by simp)).symm
    rw [List.length_cons, Region.lexFrom] at hL
    simp only [Bool.and_eq_true] at hL
    obtain ⟨⟨hr, hf⟩, hL'⟩ := hL
    obtain ⟨v, hy, hK⟩ := h
    simp only [List.length_cons] at hk
    have hr' : k ∈ Region.ready .any ops listed := by simpa using hr
    refine anyV_first hYc hZ hB h0 (by omega) (l.length + 1) listed fr hcl (Region.free_spec h0 hf) hr' hy
      (anyV_lex hYc hZ hB hz l (k + 1) _ _ (by omega) (fun j hj => by have := hl (j + 1) (by simpa using hj); simpa [Nat.add_assoc, Nat.add_comm 1 j] using this) (hcl.set hr') (fun i hi => ?_) hL' hK)
    by_cases e : k = i
    · subst e
      rcases Nat.lt_or_ge k listed.size with h' | h'
      · simp [h']
      · simp [Array.getElem?_eq_none h']
    · rw [getD_set_ne true e]; exact hlt i (by omega)
/-- Quiet, whatever else there is. -/
def AYA (P : Program) (r : Option Nat) (K : Nat) (ops : Array Oper) (L : Store) (o : Oper) (fr : AFr) (v : AV) : Prop := ∀ M : Store, AY P r K ops (L ++ M) o fr v
theorem relW_app {w : World} {I : Nat → Prop} {ρ : List Nat} {M : Store} (h : Rel w I ρ (L ++ M)) : RelW w I ρ L := fun p o b h1 h2 => h.own p o b (by rw [List.getElem?_append_left (List.getElem?_eq_some_iff.1 h1).1]; exact h1) h2
/-- A call of values alone, as a thing to be shown. -/
structure PU (P : Program) (g : FuncId) (args : List AV) (v : AV) : Prop where
  h : TPure P g args v
  p : purL args = true
def eqopP (A : Ar) (T : TyOps) (P : Program) (op : Op) (fr : AFr) (L : Store) (N : AV → Prop) : Prop :=
  match op with
  | .buildSlice t len parts => ebuildSlice T L t len (parts.toList.map fun p => (p.1, aval fr p.2)) fun v _ => N v
  | .call c => match c.callee with
    | .value f => match aval fr f with
      | .func (.func g) first captured => Ent P g ∧ ∃ v, PU P g (first ++ (c.args.toList.map (aval fr) ++ captured)) v ∧ N v
      | _ => False
    | _ => epop A T L op fr N
  | _ => epop A T L op fr N
theorem ay_valA {o : Oper} {fr : AFr} (hw : ∀ (a : Act) (w : World) (I : Nat → Prop) (ρ : List Nat), RepF w I ρ a.tmps (frOn (o.looksAt ops) fr) → Region.wanted o (yielded ops a.tmps) = true)
    {N : AV → Prop} (h : pop P L o (aval fr) N) : ∃ v, AYA P r K ops L o fr v ∧ N v := by
  have hd : ∀ c, o.op ≠ .defer c := fun c hc => by unfold pop at h; rw [hc] at h; exact h.elim
  obtain ⟨av, hN, hp⟩ := pop_ok (pop_congr (g' := aval (frOn (o.looksAt ops) fr)) (fun x hx => aval_frOn x hx) h)
  refine ⟨av, fun M => ay_yes hw (opTw_value hd ⟨av, L ++ M, ⟨rfl, rfl⟩, fun a w I ρ h1 h2 => ?_⟩), hN⟩
  obtain ⟨v, hrun, hv⟩ := hp a w I ρ (relW_app h1) h2
  exact ⟨v, w, I, ρ, .inl hrun, h1, hv, .refl .., .refl ..⟩
theorem eqopP_ok {A : Ar} {o : Oper} {fr : AFr} (hK : K ≤ L.length) (hw : ∀ (a : Act) (w : World) (I : Nat → Prop) (ρ : List Nat), RepF w I ρ a.tmps (frOn (o.looksAt ops) fr) → Region.wanted o (yielded ops a.tmps) = true)
    {N : AV → Prop} (h : eqopP A (tyOf P) P o.op fr L N) : ∃ v, AYA P r K ops L o fr v ∧ N v := by
  have fin : ∀ (v : AV), N v → (∀ M, eqop A (tyOf P) P o.op fr (L ++ M) (fun v' => v' = v)) → ∃ v, AYA P r K ops L o fr v ∧ N v := fun v hN hM => ⟨v, fun M => by
    obtain ⟨v', hy, rfl⟩ := eqop_ok (r := r) (ops := ops) (K := K) (by simp; omega) hw (hM M)
    exact hy, hN⟩
  unfold eqopP at h
  split at h
  · rename_i t len parts ho
    unfold ebuildSlice at h
    split at h
    · rename_i e hu
      obtain ⟨h1, hN⟩ := chk_iff.1 h
      refine fin _ hN fun M => ?_
      unfold eqop
      simp only [ho]
      unfold ebuildSlice
      have hu' : P.underlying t = some (.slice e) := hu
      simp only [hu']
      exact chk_iff.2 ⟨h1, trivial⟩
    · exact h.elim
  · rename_i c ho
    split at h
    · rename_i f hc
      split at h
      · rename_i g first captured hf
        obtain ⟨h1, v, hp, hN⟩ := h
        refine fin v hN fun M => ?_
        unfold eqop
        simp only [ho, hc, hf]
        exact ⟨h1, v, ⟨hp.h.call hp.p ⟨rfl, rfl⟩⟩, rfl⟩
      · exact h.elim
    · exact ay_valA hw (epop_ok (A := A) (by rw [ho]; exact ho ▸ h))
  · exact ay_valA hw (epop_ok h)
/-- What is known of an operation of such a region: the one at y lays the cell, all others are quiet. -/
def YA (P : Program) (r : Option Nat) (K : Nat) (ops : Array Oper) (L : Store) (y : Nat) (vy : AV) (i : Nat) (o : Oper) (fr : AFr) (v : AV) : Prop := (i = y ∧ v = vy) ∨ (i ≠ y ∧ AYA P r K ops L o fr v)
theorem YA.congr {y : Nat} {vy : AV} (i : Nat) (o : Oper) (fr fr' : AFr) (v : AV) (hn : fr.n = fr'.n) (h : ∀ t, t ∈ o.looksAt ops → aget fr t = aget fr' t) (hy : YA P r K ops L y vy i o fr v) : YA P r K ops L y vy i o fr' v :=
  hy.imp id fun ⟨a, b⟩ => ⟨a, fun M => (b M).congr hn h⟩
theorem anyV_sound {Q' : Exit → Act → World → Prop} {w0 : World} {I0 : Nat → Prop} {ρ : List Nat} {a0 : Act} {oz oy : Oper} {y : Nat} {vy : AV} {x : AO} (hB : tailB ops z = true) (hyz : y < z) (hoz : ops[z]? = some oz) (hgz : oz.guard = none) (hoy : ops[y]? = some oy) (hgy : oy.guard = none) (S : Nat) (hd0 : DefOk S w0 I0 a0.defers)
    (hal : ∀ fr, OpTw P r K oy (fun av L' => av = vy ∧ L' = L ++ [some x]) (fun _ _ _ => False) fr L)
    (hZ : ∀ fr a w I ρ1 (nx : Act → World → Prop), Z fr → Rel w I ρ1 (L ++ [some x]) → RepF w I ρ1 a.tmps fr → Le w0 I0 ρ w I ρ1 → Ev K w0 I0 ρ L w I ρ1 (L ++ [some x]) → a.tmps.size = a0.tmps.size → a.defers = a0.defers → (∀ a w, Q' .normal a w → nx a w) → oz.wpIn (Fen r) 0 P a w nx Q') :
    ∀ (fuel : Nat) (listed : Array Bool) (fr : AFr) (a : Act) (w : World) (I : Nat → Prop), Closed ops listed → a.tmps.size = a0.tmps.size → a.defers = a0.defers →
      ((listed.getD y false = false ∧ Rel w I ρ L ∧ RepF w I ρ a.tmps fr ∧ Le w0 I0 ρ w I ρ ∧ Ev K w0 I0 ρ L w I ρ L) ∨ (listed.getD y false = true ∧ ∃ ρ1, Rel w I ρ1 (L ++ [some x]) ∧ RepF w I ρ1 a.tmps fr ∧ Le w0 I0 ρ w I ρ1 ∧ Ev K w0 I0 ρ L w I ρ1 (L ++ [some x]))) →
      anyV ops z Z (YA P r K ops L y vy) fuel listed fr → wpAnyIn (Fen r) 0 P .any ops Q' fuel listed a w
  | 0, listed, fr, a, w, I, hc, h5, h6, st, h => h.elim
  | fuel + 1, listed, fr, a, w, I, hc, h5, h6, st, h => by
    refine ⟨fun e => absurd e h.1, fun i hi => ?_⟩
    have hput : ∀ (d : Option Tmp) (u : Value), (a.put d u).defers = a0.defers := fun d u => (by cases d <;> rfl : (a.put d u).defers = a.defers).trans h6
    rcases h.2 i hi with ⟨rfl, he, hz⟩ | ⟨_, o, v, ho, hy, hn⟩
    · have hyl := tail_last hB hc hi y hyz
      rcases st with ⟨hf, _⟩ | ⟨_, ρ1, s1, s2, s3, s4⟩
      · rw [hf] at hyl; cases hyl
      unfold wpOpIn
      simp only [hoz]
      rw [if_pos (by unfold Region.wanted; simp [hgz])]
      refine hZ fr a w I ρ1 _ hz s1 s2 s3 s4 h5 h6 (fun a w hq => ?_)
      cases fuel with
      | zero => exact ⟨he, hq⟩
      | succ fuel => exact ⟨fun _ => hq, fun j hj => by rw [he] at hj; cases hj⟩
    · unfold wpOpIn
      simp only [ho]
      have hself : ∀ j, j ≠ i → (listed.setIfInBounds i true).getD j false = listed.getD j false := fun j hj => getD_set_ne false (Ne.symm hj)
      rcases hy with ⟨rfl, rfl⟩ | ⟨hne, hy⟩
      · rw [hoy] at ho; cases ho
        have hun := (mem_ready.1 hi).1
        have hlt : i < listed.size := by
          rcases Nat.lt_or_ge i listed.size with h' | h'
          · exact h'
          · simp [Array.getElem?_eq_none h'] at hun
        rcases st with ⟨hf, s1, s2, s3, s4⟩ | ⟨ht, _⟩
        · rw [if_pos (by unfold Region.wanted; simp [hgy])]
          have hop := hal fr S a w I ρ s1 s2 (h6 ▸ hd0.mono s3 s4.size) _ (fun u av L' w' I' ρ' ⟨e1, e2⟩ r1 r2 r3 r4 => by
            subst e1 e2
            obtain ⟨p1, p2⟩ := put_repF (s2.mono r3) r2 oy.dst
            exact anyV_sound hB hyz hoz hgz hoy hgy S hd0 hal hZ fuel _ _ _ w' I' (hc.set hi) (p2.trans h5) (hput ..) (.inr ⟨by simp [hlt], ρ', r1, p1, s3.trans r3, s4.trans r4⟩) hn)
          exact oper_swap (fun e a' w' hp => by obtain ⟨x, fr', L', I', ρ', hx, q, _⟩ := hp; exact q) hop
        · simp [hlt] at hun ht; rw [hun] at ht; cases ht
      · rcases st with ⟨hf, s1, s2, s3, s4⟩ | ⟨ht, ρ1, s1, s2, s3, s4⟩
        · have hy0 := hy []
          rw [List.append_nil] at hy0
          refine hy0 S a w I ρ _ Q' s1 ⟨s2.1, fun t => by rw [aget_frOn]; split; exact s2.2 t; exact .any _⟩ (h6 ▸ hd0.mono s3 s4.size) (fun u w' I' r1 r2 r3 r4 => ?_)
          obtain ⟨p1, p2⟩ := put_repF (s2.mono r3) r2 o.dst
          exact anyV_sound hB hyz hoz hgz hoy hgy S hd0 hal hZ fuel _ _ _ w' I' (hc.set hi) (p2.trans h5) (hput ..) (.inl ⟨by rw [hself y (Ne.symm hne)]; exact hf, r1, p1, s3.trans r3, s4.trans r4⟩) hn
        · refine hy [some x] S a w I ρ1 _ Q' s1 ⟨s2.1, fun t => by rw [aget_frOn]; split; exact s2.2 t; exact .any _⟩ (h6 ▸ hd0.mono s3 s4.size) (fun u w' I' r1 r2 r3 r4 => ?_)
          obtain ⟨p1, p2⟩ := put_repF (s2.mono r3) r2 o.dst
          exact anyV_sound hB hyz hoz hgz hoy hgy S hd0 hal hZ fuel _ _ _ w' I' (hc.set hi) (p2.trans h5) (hput ..) (.inr ⟨by rw [hself y (Ne.symm hne)]; exact ht, ρ1, r1, p1, s3.trans r3, s4.trans r4⟩) hn
theorem Tw.drawA {id : Nat} {Q : AEx → AFr → Store → Prop} {fr : AFr} {oz oy : Oper} {y : Nat} {vy : AV} {x : AO} (hm : P.follows .mixedOrders = true) (hB : Region.lexB .any ops = true) (hT : tailB ops z = true) (hz : z + 1 = ops.size) (hyz : y < z) (hoz : ops[z]? = some oz) (hgz : oz.guard = none) (hoy : ops[y]? = some oy) (hgy : oy.guard = none)
    (hal : ∀ fr, OpTw P r K oy (fun av L' => av = vy ∧ L' = L ++ [some x]) (fun _ _ _ => False) fr L)
    (h : lexV (lastT P r K (L ++ [some x]) oz Q) (YA P r K ops L y vy) 0 (ops.toList.take z) fr) : Tw P r K (.region id ops true) Q fr L := by
  intro S a w I ρ h1 h2 h3
  simp only [Region.lexB, Bool.and_eq_true] at hB
  have hlen : (ops.toList.take z).length = z := by simp; omega
  have hcl : Closed ops (Array.replicate ops.size false) := fun k i hk => by
    exfalso
    rcases Nat.lt_or_ge k ops.size with h' | h'
    · simp [h'] at hk
    · simp [h'] at hk
  have hany := anyV_lex (Y := YA P r K ops L y vy) (Z := lastT P r K (L ++ [some x]) oz Q) (fun i o fr fr' v hn ht hy => YA.congr i o fr fr' v hn ht hy) (fun fr fr' e ⟨f2, e2, q⟩ => ⟨f2, e.symm.trans e2, q⟩) hT hz (ops.toList.take z) 0 (Array.replicate ops.size false) fr (by omega)
    (fun j hj => by rw [hlen] at hj; simp [hj]) hcl (fun i hi => by omega) (by rw [hlen, hz]; exact hB.2) h
  refine wpIn_region_any hm ?_
  obtain ⟨d1, d2, d3⟩ := drewN_rel (K := K) (w := w) (w' := { w with drawn := w.drawn + 1 }) rfl rfl rfl rfl h1
  have hy0 : (Array.replicate ops.size false).getD y false = false := by
    rcases Nat.lt_or_ge y ops.size with h' | h'
    · simp [h']
    · simp [h']
  have := anyV_sound (P := P) (r := r) (K := K) (ops := ops) (L := L) (w0 := w) (I0 := I) (a0 := a) (Q' := Post S K Q a w I ρ L) hT hyz hoz hgz hoy hgy S h3 hal (fun fr' a' w' I' ρ1 nx ⟨f2, e2, q⟩ r1 r2 r3 r4 r5 r6 hnx => by
      have hop := q S a' w' I' ρ1 r1 (e2.rep r2) (by rw [r6]; exact h3.mono r3 r4.size) nx (fun v av L2 w2 I2 ρ2 hN s1 s2 s3 s4 => by
        obtain ⟨hp1, hp2⟩ := put_repF ((e2.rep r2).mono s3) s2 oz.dst
        refine hnx _ _ ⟨.normal, _, L2, I2, ρ2, trivial, hN, s1, hp1, ?_, r4.trans s4, hp2.trans r5⟩
        have : (a'.put oz.dst v).defers = a.defers := (by cases oz.dst <;> rfl : (a'.put oz.dst v).defers = a'.defers).trans r6
        rw [this]
        exact h3.mono (r3.trans s3) (Nat.le_trans r4.size s4.size))
      exact oper_post (fun e a1 w1 hp => Post.behind r4 r5 hp) hop)
    (ops.toList.take z).length.succ (Array.replicate ops.size false) fr a _ I hcl rfl rfl (.inl ⟨hy0, d1, h2.mono d2, d2, d3⟩) hany
  simpa [hlen, hz] using this
/-- Reckoned out. -/
def eqopsV (A : Ar) (T : TyOps) (P : Program) (L : Store) (y : Nat) (vy : AV) (Zt : AFr → Prop) : Nat → List Oper → AFr → Prop
  | _, [], fr => Zt fr
  | k, o :: rest, fr => match Nat.beq k y with
    | true => eqopsV A T P L y vy Zt (k + 1) rest (aputf o.dst vy fr)
    | false => match o.guard with
      | none => eqopP A T P o.op fr L fun av => eqopsV A T P L y vy Zt (k + 1) rest (aputf o.dst av fr)
      | some _ => False
theorem eqopsV_ok {A : Ar} {y : Nat} {vy : AV} {Zt : AFr → Prop} (hK : K ≤ L.length) : ∀ (l : List Oper) (k : Nat) (fr : AFr), eqopsV A (tyOf P) P L y vy Zt k l fr → lexV Zt (YA P r K ops L y vy) k l fr
  | [], _, _, h => h
  | o :: rest, k, fr, h => by
    simp only [eqopsV] at h
    split at h
    · rename_i hk
      exact ⟨vy, .inl ⟨Nat.eq_of_beq_eq_true hk, rfl⟩, eqopsV_ok hK rest (k + 1) _ h⟩
    · rename_i hk
      split at h
      · rename_i hg
        obtain ⟨v, hy, hN⟩ := eqopP_ok (r := r) (ops := ops) hK (fun a w I ρ _ => by unfold Region.wanted; simp [hg]) h
        exact ⟨v, .inr ⟨fun e => by subst e; simp at hk, hy⟩, eqopsV_ok hK rest (k + 1) _ hN⟩
      · exact h.elim
theorem lexV.mono {Z' : AFr → Prop} (hZ : ∀ fr, Z fr → Z' fr) : ∀ (l : List Oper) (k : Nat) (fr : AFr), lexV Z Y k l fr → lexV Z' Y k l fr
  | [], _, fr, h => hZ fr h
  | o :: l, k, fr, ⟨v, hy, h⟩ => ⟨v, hy, lexV.mono hZ l (k + 1) _ h⟩
/-- A region that draws its order: one operation lays a new cell, the last writes, all others are quiet. -/
theorem TW.drawA {A : Ar} {T : TyOps} {id : Nat} {Q : AEx → AFr → Store → Prop} {fr : AFr} {oz oy : Oper} {ty : TypeId} (y : Nat) (zv : AV) (hT : T = tyOf P) (hm : P.follows .mixedOrders = true) (hB : Region.lexB .any ops = true) (hz : z + 1 = ops.size) (hTl : tailB ops z = true) (hyz : Nat.blt y z = true) (hoz : ops[z]? = some oz) (hgz : oz.guard = none) (hoy : ops[y]? = some oy) (hgy : oy.guard = none) (hop : oy.op = .alloc ty) (hK : Nat.ble K L.length = true)
    (hal : ealloc T K L ty (fun av L' => av = .ref L.length zv.cells.length 0 0 ∧ L' = L ++ [some (.box zv.cells.length zv)]))
    (h : eqopsV A T P L y (.ref L.length zv.cells.length 0 0) (fun fr' => erop A T P K oz.op fr' (L ++ [some (.box zv.cells.length zv)]) (fun av L' => Q .normal (aputf oz.dst av fr') L') Q) 0 (ops.toList.take z) fr) : TW P r K (.region id ops true) Q fr L := by
  subst hT
  refine ⟨Tw.drawA hm hB hTl hz (Nat.le_of_ble_eq_true hyz) hoz hgz hoy hgy (vy := .ref L.length zv.cells.length 0 0) (x := .box zv.cells.length zv) (fun fr => ?_) ?_⟩
  · refine rop_ok (erop_ok (A := A) ?_)
    unfold erop
    rw [hop]
    exact hal
  · exact lexV.mono (fun fr q => ⟨fr, ⟨rfl, fun _ => rfl⟩, rop_ok (erop_ok q)⟩) _ _ _ (eqopsV_ok (by simpa using hK) _ _ _ h)
end
end Go.Proofs.Ytpjibokaeefhiaa.Tw
