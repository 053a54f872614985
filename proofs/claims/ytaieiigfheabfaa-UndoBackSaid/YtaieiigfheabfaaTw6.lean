import Derived.Test.YtaieiigfheabfaaTw5
/-! Regions that draw their order, whose operations but the last leave the objects alone; the last waits for all others. -/
namespace Go.Proofs.Ytaieiigfheabfaa.Tw
open Go.RowKit
set_option linter.unusedVariables false
set_option linter.unusedSimpArgs false
section
variable {P : Program} {r : Option Nat} {K : Nat} {ops : Array Oper} {L : Store} {z : Nat} {Z : AFr → Prop}
/-- What an operation waits for, itself. -/
def deps (ops : Array Oper) (k : Nat) : List Nat :=
  match ops[k]? with
  | some o => (o.after.toList.filter fun e => Region.binds .any e).map (·.on)
  | none => []
def clos (ops : Array Oper) : Nat → List Nat → List Nat
  | 0, S => S
  | k + 1, S => clos ops k (match S.contains k with | true => S ++ deps ops k | false => S)
def tailB (ops : Array Oper) (z : Nat) : Bool := (List.range z).all fun i => (clos ops z (deps ops z)).contains i
/-- What is listed has what it waits for listed. -/
def Closed (ops : Array Oper) (listed : Array Bool) : Prop := ∀ (k i : Nat), listed.getD k false = true → i ∈ deps ops k → listed.getD i false = true
theorem clos_listed {listed : Array Bool} (hc : Closed ops listed) : ∀ (k : Nat) (S : List Nat), (∀ i ∈ S, listed.getD i false = true) → ∀ i ∈ clos ops k S, listed.getD i false = true
  | 0, S, h, i, hi => h i hi
  | k + 1, S, h, i, hi => by
    simp only [clos] at hi
    split at hi
    · rename_i hk
      refine clos_listed hc k _ (fun x hx => ?_) i hi
      rcases List.mem_append.1 hx with hx | hx
      · exact h x hx
      · exact hc k x (h k (by simpa using hk)) hx
    · exact clos_listed hc k S h i hi
theorem deps_ready {listed : Array Bool} {k : Nat} (h : k ∈ Region.ready .any ops listed) : ∀ i ∈ deps ops k, listed.getD i false = true := by
  obtain ⟨_, o, ho, hall⟩ := mem_ready.1 h
  intro i hi
  unfold deps at hi
  rw [ho] at hi
  simp only [List.mem_map, List.mem_filter] at hi
  obtain ⟨e, ⟨he, hb⟩, rfl⟩ := hi
  exact hall e (by simpa using he) hb
theorem tail_last {listed : Array Bool} (hB : tailB ops z = true) (hc : Closed ops listed) (h : z ∈ Region.ready .any ops listed) (i : Nat) (hi : i < z) : listed.getD i false = true := by
  have := List.all_eq_true.1 hB i (by simpa using hi)
  exact clos_listed hc z _ (deps_ready h) i (by simpa using this)
theorem Closed.set {listed : Array Bool} (hc : Closed ops listed) {k : Nat} (h : k ∈ Region.ready .any ops listed) : Closed ops (listed.setIfInBounds k true) := by
  intro j i hj hi
  have mono : ∀ i, listed.getD i false = true → (listed.setIfInBounds k true).getD i false = true := fun i h => by
    by_cases e : k = i
    · subst e
      rcases Nat.lt_or_ge k listed.size with h' | h'
      · simp [h']
      · simp [Array.getElem?_eq_none h'] at h
    · rw [getD_set_ne false e]; exact h
  by_cases e : k = j
  · subst e; exact mono i (deps_ready h i hi)
  · rw [getD_set_ne false e] at hj; exact mono i (hc j i hj hi)
/-- Whatever order is picked; the operation at place z is the last. -/
def anyT (P : Program) (r : Option Nat) (K : Nat) (ops : Array Oper) (L : Store) (z : Nat) (Z : AFr → Prop) : Nat → Array Bool → AFr → Prop
  | 0, _, _ => False
  | fuel + 1, listed, fr => Region.ready .any ops listed ≠ [] ∧ ∀ i ∈ Region.ready .any ops listed,
    (i = z ∧ Region.ready .any ops (listed.setIfInBounds z true) = [] ∧ Z fr) ∨ (i ≠ z ∧ ∃ o v, ops[i]? = some o ∧ AY P r K ops L o fr v ∧ anyT P r K ops L z Z fuel (listed.setIfInBounds i true) (aputf o.dst v fr))
theorem anyT.congr (hZ : ∀ fr fr', FEq fr fr' → Z fr → Z fr') : ∀ (fuel : Nat) (listed : Array Bool) (fr fr' : AFr), FEq fr fr' → anyT P r K ops L z Z fuel listed fr → anyT P r K ops L z Z fuel listed fr'
  | 0, _, _, _, _, h => h
  | fuel + 1, listed, fr, fr', e, h => ⟨h.1, fun i hi => (h.2 i hi).imp (fun ⟨a, b, c⟩ => ⟨a, b, hZ _ _ e c⟩) fun ⟨a, o, v, ho, hy, hn⟩ => ⟨a, o, v, ho, hy.congr e.1 (fun t _ => e.2 t), anyT.congr hZ fuel _ _ _ (e.put o.dst v) hn⟩⟩
theorem anyT_first (hZ : ∀ fr fr', FEq fr fr' → Z fr → Z fr') (hB : tailB ops z = true) {i : Nat} {oi : Oper} {v : AV} (hi : ops[i]? = some oi) (hiz : i < z) :
    ∀ (fuel : Nat) (listed : Array Bool) (fr : AFr), Closed ops listed →
      (∀ (j : Nat) (oj : Oper), ops[j]? = some oj → j ≠ i → listed.getD j true = false → (∀ e ∈ oj.after, Region.binds .any e = true → e.on ≠ i) → oi.apart ops oj = true) →
      i ∈ Region.ready .any ops listed → AY P r K ops L oi fr v →
      anyT P r K ops L z Z fuel (listed.setIfInBounds i true) (aputf oi.dst v fr) → anyT P r K ops L z Z (fuel + 1) listed fr := by
  intro fuel
  induction fuel with
  | zero => intro listed fr _ _ _ _ H; exact H.elim
  | succ fuel ih =>
    intro listed fr hcl hfree hr hy H
    refine ⟨fun h => (by rw [h] at hr; cases hr), fun j hj => ?_⟩
    have hun := (mem_ready.1 hr).1
    by_cases hji : j = i
    · subst hji; exact .inr ⟨by omega, oi, v, hi, hy, H⟩
    · by_cases hjz : j = z
      · subst hjz
        have := tail_last hB hcl hj i hiz
        rcases Nat.lt_or_ge i listed.size with h' | h'
        · simp [h'] at this hun; rw [this] at hun; cases hun
        · simp [Array.getElem?_eq_none h'] at hun
      · refine .inr ⟨hjz, ?_⟩
        obtain h1 | ⟨_, oj', u, hoj', hyj, h1⟩ := H.2 j (ready_mono hj hji)
        · exact absurd h1.1 hjz
        obtain ⟨hjun, oj, hoj, hall⟩ := mem_ready.1 hj
        rw [hoj] at hoj'
        have eoj := Option.some.inj hoj'
        subst eoj
        have hnot : ∀ e ∈ (oj : Oper).after, Region.binds .any e = true → e.on ≠ i := fun e he hb heq => by
          have h1 := hall e he hb
          rw [heq] at h1
          rcases Nat.lt_or_ge i listed.size with h' | h'
          · simp [h'] at hun h1; rw [hun] at h1; cases h1
          · simp [Array.getElem?_eq_none h'] at h1
        obtain ⟨q1, q2, q3⟩ := Oper.apart_spec (hfree j oj hoj hji hjun hnot)
        have hfree' : ∀ (k : Nat) (ok : Oper), ops[k]? = some ok → k ≠ i → (listed.setIfInBounds j true).getD k true = false →
            (∀ e ∈ ok.after, Region.binds .any e = true → e.on ≠ i) → oi.apart ops ok = true := fun k ok hk hki hun hno => by
          refine hfree k ok hk hki ?_ hno
          by_cases hjk : j = k
          · subst hjk; exact hjun
          · rw [getD_set_ne true hjk] at hun; exact hun
        refine ⟨oj, u, hoj, hyj.congr (aputf_n ..) (fun t ht => ?_), ih (listed.setIfInBounds j true) _ (hcl.set hj) hfree' (ready_mono hr (Ne.symm hji)) (hy.congr (aputf_n ..).symm (fun t ht => ?_)) ?_⟩
        · rw [aget_put, if_neg]
          rintro ⟨hd, _⟩
          exact q1 t hd ht
        · rw [aget_put, if_neg]
          rintro ⟨hd, _⟩
          exact q3 t hd ht
        · rw [Array.setIfInBounds_comm _ _ (Ne.symm hji)] at h1
          exact anyT.congr hZ _ _ _ _ (put_comm oi.dst oj.dst v u fr q2) h1
theorem anyT_lex (hZ : ∀ fr fr', FEq fr fr' → Z fr → Z fr') (hB : tailB ops z = true) (hz : z + 1 = ops.size) : ∀ (l : List Oper) (k : Nat) (listed : Array Bool) (fr : AFr), k + l.length = z → (∀ j, j < l.length → l[j]? = ops[k + j]?) → Closed ops listed → (∀ i, i < k → listed.getD i true = true) →
    Region.lexFrom .any ops (l.length + 1) k listed = true → lexQ P r K ops L Z l fr → anyT P r K ops L z Z (l.length + 1) listed fr
  | [], k, listed, fr, hk, _, _, hlt, hL, h => by
    simp only [List.length_nil, Region.lexFrom, Bool.and_eq_true] at hL
    obtain ⟨⟨hr, _⟩, he⟩ := hL
    simp only [List.length_nil, Nat.add_zero] at hk
    subst hk
    refine ⟨fun h0 => by rw [h0] at hr; simp at hr, fun i hi => .inl ⟨?_, by simpa using he, h⟩⟩
    obtain ⟨h1, o, ho, _⟩ := mem_ready.1 hi
    have hlt' := (Array.getElem?_eq_some_iff.1 ho).1
    rcases Nat.lt_trichotomy i k with h2 | h2 | h2
    · rw [hlt i h2] at h1; cases h1
    · exact h2
    · omega
  | o :: l, k, listed, fr, hk, hl, hcl, hlt, hL, h => by
    have h0 : ops[k]? = some o := by simpa using (hl 0 (by simp)).symm
    rw [List.length_cons, Region.lexFrom] at hL
    simp only [Bool.and_eq_true] at hL
    obtain ⟨⟨hr, hf⟩, hL'⟩ := hL
    obtain ⟨v, hy, hK⟩ := h
    simp only [List.length_cons] at hk
    have hr' : k ∈ Region.ready .any ops listed := by simpa using hr
    refine anyT_first hZ hB h0 (by omega) (l.length + 1) listed fr hcl (Region.free_spec h0 hf) hr' hy
      (anyT_lex hZ hB hz l (k + 1) _ _ (by omega) (fun j hj => by have := hl (j + 1) (by simpa using hj); simpa [Nat.add_assoc, Nat.add_comm 1 j] using this) (hcl.set hr') (fun i hi => ?_) hL' hK)
    by_cases e : k = i
    · subst e
      rcases Nat.lt_or_ge k listed.size with h' | h'
      · simp [h']
      · simp [Array.getElem?_eq_none h']
    · rw [getD_set_ne true e]; exact hlt i (by omega)
theorem anyT_sound {Q' : Exit → Act → World → Prop} {w0 : World} {I0 : Nat → Prop} {ρ : List Nat} {a0 : Act} {oz : Oper} (hoz : ops[z]? = some oz) (hgz : oz.guard = none) (S : Base) (hd0 : DefOk S w0 I0 a0.defers)
    (hZ : ∀ fr a w I (nx : Act → World → Prop), Z fr → Rel w I ρ L → RepF w I ρ a.tmps fr → Le w0 I0 ρ w I ρ → Ev K w0 I0 ρ L w I ρ L → a.tmps.size = a0.tmps.size → a.defers = a0.defers → (∀ a w, Q' .normal a w → nx a w) → oz.wpIn (Fen r) 0 P a w nx Q') :
    ∀ (fuel : Nat) (listed : Array Bool) (fr : AFr) (a : Act) (w : World) (I : Nat → Prop), Rel w I ρ L → RepF w I ρ a.tmps fr → Le w0 I0 ρ w I ρ → Ev K w0 I0 ρ L w I ρ L → a.tmps.size = a0.tmps.size → a.defers = a0.defers →
      anyT P r K ops L z Z fuel listed fr → wpAnyIn (Fen r) 0 P .any ops Q' fuel listed a w
  | 0, listed, fr, a, w, I, h1, h2, h3, h4, h5, h6, h => h.elim
  | fuel + 1, listed, fr, a, w, I, h1, h2, h3, h4, h5, h6, h => by
    refine ⟨fun e => absurd e h.1, fun i hi => ?_⟩
    rcases h.2 i hi with ⟨rfl, he, hz⟩ | ⟨_, o, v, ho, hy, hn⟩
    · unfold wpOpIn
      simp only [hoz]
      rw [if_pos (by unfold Region.wanted; simp [hgz])]
      refine hZ fr a w I _ hz h1 h2 h3 h4 h5 h6 (fun a w hq => ?_)
      cases fuel with
      | zero => exact ⟨he, hq⟩
      | succ fuel => exact ⟨fun _ => hq, fun j hj => by rw [he] at hj; cases hj⟩
    · unfold wpOpIn
      simp only [ho]
      refine hy S a w I ρ _ Q' h1 ⟨h2.1, fun t => by rw [aget_frOn]; split; exact h2.2 t; exact .any _⟩ (h6 ▸ hd0.mono h3 h4.size) (fun u w' I' r1 r2 r3 r4 => ?_)
      obtain ⟨p1, p2⟩ := put_repF (h2.mono r3) r2 o.dst
      exact anyT_sound hoz hgz S hd0 hZ fuel _ _ _ w' I' r1 p1 (h3.trans r3) (h4.trans r4) (p2.trans h5) ((by cases o.dst <;> rfl : (a.put o.dst u).defers = a.defers).trans h6) hn
theorem lexQ.mono {Q Q' : AFr → Prop} (hQ : ∀ fr, Q fr → Q' fr) : ∀ (l : List Oper) (fr : AFr), lexQ P r K ops L Q l fr → lexQ P r K ops L Q' l fr
  | [], fr, h => hQ fr h
  | o :: l, fr, ⟨v, hy, h⟩ => ⟨v, hy, lexQ.mono hQ l _ h⟩
/-- The last operation, as it stands in a frame that says the same. -/
def lastT (P : Program) (r : Option Nat) (K : Nat) (L : Store) (o : Oper) (Q : AEx → AFr → Store → Prop) (fr : AFr) : Prop :=
  ∃ f2, FEq fr f2 ∧ OpTw P r K o (fun av L' => Q .normal (aputf o.dst av f2) L') Q f2 L
theorem Tw.drawT {id : Nat} {Q : AEx → AFr → Store → Prop} {fr : AFr} {oz : Oper} (hm : P.follows .mixedOrders = true) (hB : Region.lexB .any ops = true) (hT : tailB ops z = true) (hz : z + 1 = ops.size) (hoz : ops[z]? = some oz) (hgz : oz.guard = none)
    (h : lexQ P r K ops L (lastT P r K L oz Q) (ops.toList.take z) fr) : Tw P r K (.region id ops true) Q fr L := by
  intro S a w I ρ h1 h2 h3
  simp only [Region.lexB, Bool.and_eq_true] at hB
  have hlen : (ops.toList.take z).length = z := by simp; omega
  have hcl : Closed ops (Array.replicate ops.size false) := fun k i hk => by
    exfalso
    rcases Nat.lt_or_ge k ops.size with h' | h'
    · simp [h'] at hk
    · simp [h'] at hk
  have hany := anyT_lex (P := P) (r := r) (K := K) (L := L) (Z := lastT P r K L oz Q) (fun fr fr' e ⟨f2, e2, q⟩ => ⟨f2, e.symm.trans e2, q⟩) hT hz (ops.toList.take z) 0 (Array.replicate ops.size false) fr (by omega)
    (fun j hj => by rw [hlen] at hj; simp [hj]) hcl (fun i hi => by omega) (by rw [hlen, hz]; exact hB.2) h
  refine wpIn_region_any hm ?_
  obtain ⟨d1, d2, d3⟩ := drewN_rel (K := K) (w := w) (w' := { w with drawn := w.drawn + 1 }) rfl rfl rfl rfl h1
  have := anyT_sound (P := P) (r := r) (K := K) (ops := ops) (L := L) (w0 := w) (I0 := I) (a0 := a) (Q' := Post S K Q a w I ρ L) hoz hgz S h3 (fun fr' a' w' I' nx ⟨f2, e2, q⟩ r1 r2 r3 r4 r5 r6 hnx => by
      have hop := q S a' w' I' ρ r1 (e2.rep r2) (by rw [r6]; exact h3.mono r3 r4.size) nx (fun v av L2 w2 I2 ρ2 hN s1 s2 s3 s4 => by
        obtain ⟨hp1, hp2⟩ := put_repF ((e2.rep r2).mono s3) s2 oz.dst
        refine hnx _ _ ⟨.normal, _, L2, I2, ρ2, trivial, hN, s1, hp1, ?_, r4.trans s4, hp2.trans r5⟩
        have : (a'.put oz.dst v).defers = a.defers := (by cases oz.dst <;> rfl : (a'.put oz.dst v).defers = a'.defers).trans r6
        rw [this]
        exact h3.mono (r3.trans s3) (Nat.le_trans r4.size s4.size))
      exact oper_post (fun e a1 w1 hp => Post.behind r4 r5 hp) hop)
    (ops.toList.take z).length.succ (Array.replicate ops.size false) fr a _ I d1 (h2.mono d2) d2 d3 rfl rfl hany
  simpa [hlen, hz] using this
/-- A region that draws its order, and whose operations but the last are quiet. -/
theorem TW.drawT {A : Ar} {T : TyOps} {P : Program} {r : Option Nat} {K z : Nat} {id : Nat} {ops : Array Oper} {Q : AEx → AFr → Store → Prop} {fr : AFr} {L : Store} {oz : Oper} (hT : T = tyOf P) (hm : P.follows .mixedOrders = true) (hB : Region.lexB .any ops = true) (hz : z + 1 = ops.size) (hTl : tailB ops z = true) (hoz : ops[z]? = some oz) (hgz : oz.guard = none) (hK : Nat.ble K L.length = true)
    (h : eqops A T P ops L (fun fr' => erop A T P K oz.op fr' L (fun av L' => Q .normal (aputf oz.dst av fr') L') Q) (ops.toList.take z) fr) : TW P r K (.region id ops true) Q fr L := by
  subst hT
  refine ⟨Tw.drawT hm hB hTl hz hoz hgz ?_⟩
  have := eqops_ok (r := r) (K := K) (by simpa using hK) _ _ h
  exact lexQ.mono (fun fr ⟨f2, e, q⟩ => ⟨f2, e, rop_ok (erop_ok q)⟩) _ _ this
end
end Go.Proofs.Ytaieiigfheabfaa.Tw

/-! Regions that draw their order, one of whose operations lays a new cell, and whose last writes. -/
namespace Go.Proofs.Ytaieiigfheabfaa.Tw
open Go.RowKit
set_option linter.unusedVariables false
set_option linter.unusedSimpArgs false
section
variable {P : Program} {r : Option Nat} {K : Nat} {ops : Array Oper} {L L1 : Store} {z : Nat} {Z : AFr → Prop} {Y : Nat → Oper → AFr → AV → Prop}
/-- Whatever order is picked; the operation at place z is the last. -/
def anyV (ops : Array Oper) (z : Nat) (Z : AFr → Prop) (Y : Nat → Oper → AFr → AV → Prop) : Nat → Array Bool → AFr → Prop
  | 0, _, _ => False
  | fuel + 1, listed, fr => Region.ready .any ops listed ≠ [] ∧ ∀ i ∈ Region.ready .any ops listed,
    (i = z ∧ Region.ready .any ops (listed.setIfInBounds z true) = [] ∧ Z fr) ∨ (i ≠ z ∧ ∃ o v, ops[i]? = some o ∧ Y i o fr v ∧ anyV ops z Z Y fuel (listed.setIfInBounds i true) (aputf o.dst v fr))
theorem anyV.congr (hYc : ∀ (i : Nat) (o : Oper) (fr fr' : AFr) (v : AV), fr.n = fr'.n → (∀ t, t ∈ o.looksAt ops → aget fr t = aget fr' t) → Y i o fr v → Y i o fr' v) (hZ : ∀ fr fr', FEq fr fr' → Z fr → Z fr') : ∀ (fuel : Nat) (listed : Array Bool) (fr fr' : AFr), FEq fr fr' → anyV ops z Z Y fuel listed fr → anyV ops z Z Y fuel listed fr'
  | 0, _, _, _, _, h => h
  | fuel + 1, listed, fr, fr', e, h => ⟨h.1, fun i hi => (h.2 i hi).imp (fun ⟨a, b, c⟩ => ⟨a, b, hZ _ _ e c⟩) fun ⟨a, o, v, ho, hy, hn⟩ => ⟨a, o, v, ho, hYc _ _ _ _ _ e.1 (fun t _ => e.2 t) hy, anyV.congr hYc hZ fuel _ _ _ (e.put o.dst v) hn⟩⟩
theorem anyV_first (hYc : ∀ (i : Nat) (o : Oper) (fr fr' : AFr) (v : AV), fr.n = fr'.n → (∀ t, t ∈ o.looksAt ops → aget fr t = aget fr' t) → Y i o fr v → Y i o fr' v) (hZ : ∀ fr fr', FEq fr fr' → Z fr → Z fr') (hB : tailB ops z = true) {i : Nat} {oi : Oper} {v : AV} (hi : ops[i]? = some oi) (hiz : i < z) :
    ∀ (fuel : Nat) (listed : Array Bool) (fr : AFr), Closed ops listed →
      (∀ (j : Nat) (oj : Oper), ops[j]? = some oj → j ≠ i → listed.getD j true = false → (∀ e ∈ oj.after, Region.binds .any e = true → e.on ≠ i) → oi.apart ops oj = true) →
      i ∈ Region.ready .any ops listed → Y i oi fr v →
      anyV ops z Z Y fuel (listed.setIfInBounds i true) (aputf oi.dst v fr) → anyV ops z Z Y (fuel + 1) listed fr := by
  intro fuel
  induction fuel with
  | zero => intro listed fr _ _ _ _ H; exact H.elim
  | succ fuel ih =>
    intro listed fr hcl hfree hr hy H
    refine ⟨fun h => (by rw [h] at hr; cases hr), fun j hj => ?_⟩
    have hun := (mem_ready.1 hr).1
    by_cases hji : j = i
    · subst hji; exact .inr ⟨by omega, oi, v, hi, hy, H⟩
    · by_cases hjz : j = z
      · subst hjz
        have := tail_last hB hcl hj i hiz
        rcases Nat.lt_or_ge i listed.size with h' | h'
        · simp [h'] at this hun; rw [this] at hun; cases hun
        · simp [Array.getElem?_eq_none h'] at hun
      · refine .inr ⟨hjz, ?_⟩
        obtain h1 | ⟨_, oj', u, hoj', hyj, h1⟩ := H.2 j (ready_mono hj hji)
        · exact absurd h1.1 hjz
        obtain ⟨hjun, oj, hoj, hall⟩ := mem_ready.1 hj
        rw [hoj] at hoj'
        have eoj := Option.some.inj hoj'
        subst eoj
        have hnot : ∀ e ∈ (oj : Oper).after, Region.binds .any e = true → e.on ≠ i := fun e he hb heq => by
          have h1 := hall e he hb
          rw [heq] at h1
          rcases Nat.lt_or_ge i listed.size with h' | h'
          · simp [h'] at hun h1; rw [hun] at h1; cases h1
          · simp [Array.getElem?_eq_none h'] at h1
        obtain ⟨q1, q2, q3⟩ := Oper.apart_spec (hfree j oj hoj hji hjun hnot)
        have hfree' : ∀ (k : Nat) (ok : Oper), ops[k]? = some ok → k ≠ i → (listed.setIfInBounds j true).getD k true = false →
            (∀ e ∈ ok.after, Region.binds .any e = true → e.on ≠ i) → oi.apart ops ok = true := fun k ok hk hki hun hno => by
          refine hfree k ok hk hki ?_ hno
          by_cases hjk : j = k
          · subst hjk; exact hjun
          · rw [getD_set_ne true hjk] at hun; exact hun
        refine ⟨oj, u, hoj, hYc _ _ _ _ _ (aputf_n ..) (fun t ht => ?_) hyj, ih (listed.setIfInBounds j true) _ (hcl.set hj) hfree' (ready_mono hr (Ne.symm hji)) (hYc _ _ _ _ _ (aputf_n ..).symm (fun t ht => ?_) hy) ?_⟩
        · rw [aget_put, if_neg]
          rintro ⟨hd, _⟩
          exact q1 t hd ht
        · rw [aget_put, if_neg]
          rintro ⟨hd, _⟩
          exact q3 t hd ht
        · rw [Array.setIfInBounds_comm _ _ (Ne.symm hji)] at h1
          exact anyV.congr hYc hZ _ _ _ _ (put_comm oi.dst oj.dst v u fr q2) h1
/-- In the order of the text. -/
def lexV (Z : AFr → Prop) (Y : Nat → Oper → AFr → AV → Prop) : Nat → List Oper → AFr → Prop
  | _, [], fr => Z fr
  | k, o :: rest, fr => ∃ v, Y k o fr v ∧ lexV Z Y (k + 1) rest (aputf o.dst v fr)
theorem anyV_lex (hYc : ∀ (i : Nat) (o : Oper) (fr fr' : AFr) (v : AV), fr.n = fr'.n → (∀ t, t ∈ o.looksAt ops → aget fr t = aget fr' t) → Y i o fr v → Y i o fr' v) (hZ : ∀ fr fr', FEq fr fr' → Z fr → Z fr') (hB : tailB ops z = true) (hz : z + 1 = ops.size) : ∀ (l : List Oper) (k : Nat) (listed : Array Bool) (fr : AFr), k + l.length = z → (∀ j, j < l.length → l[j]? = ops[k + j]?) → Closed ops listed → (∀ i, i < k → listed.getD i true = true) →
    Region.lexFrom .any ops (l.length + 1) k listed = true → lexV Z Y k l fr → anyV ops z Z Y (l.length + 1) listed fr
  | [], k, listed, fr, hk, _, _, hlt, hL, h => by
    simp only [List.length_nil, Region.lexFrom, Bool.and_eq_true] at hL
    obtain ⟨⟨hr, _⟩, he⟩ := hL
    simp only [List.length_nil, Nat.add_zero] at hk
    subst hk
    refine ⟨fun h0 => by rw [h0] at hr; simp at hr, fun i hi => .inl ⟨?_, by simpa using he, h⟩⟩
    obtain ⟨h1, o, ho, _⟩ := mem_ready.1 hi
    have hlt' := (Array.getElem?_eq_some_iff.1 ho).1
    rcases Nat.lt_trichotomy i k with h2 | h2 | h2
    · rw [hlt i h2] at h1; cases h1
    · exact h2
    · omega
  | o :: l, k, listed, fr, hk, hl, hcl, hlt, hL, h => by
    have h0 : ops[k]? = some o := by simpa using (hl 0 (by simp)).symm
    rw [List.length_cons, Region.lexFrom] at hL
    simp only [Bool.and_eq_true] at hL
    obtain ⟨⟨hr, hf⟩, hL'⟩ := hL
    obtain ⟨v, hy, hK⟩ := h
    simp only [List.length_cons] at hk
    have hr' : k ∈ Region.ready .any ops listed := by simpa using hr
    refine anyV_first hYc hZ hB h0 (by omega) (l.length + 1) listed fr hcl (Region.free_spec h0 hf) hr' hy
      (anyV_lex hYc hZ hB hz l (k + 1) _ _ (by omega) (fun j hj => by have := hl (j + 1) (by simpa using hj); simpa [Nat.add_assoc, Nat.add_comm 1 j] using this) (hcl.set hr') (fun i hi => ?_) hL' hK)
    by_cases e : k = i
    · subst e
      rcases Nat.lt_or_ge k listed.size with h' | h'
      · simp [h']
      · simp [Array.getElem?_eq_none h']
    · rw [getD_set_ne true e]; exact hlt i (by omega)
/-- Quiet, whatever else there is. -/
def AYA (P : Program) (r : Option Nat) (K : Nat) (ops : Array Oper) (L : Store) (o : Oper) (fr : AFr) (v : AV) : Prop := ∀ M : Store, AY P r K ops (L ++ M) o fr v
theorem relW_app {w : World} {I : Nat → Prop} {ρ : List Nat} {M : Store} (h : Rel w I ρ (L ++ M)) : RelW w I ρ L := fun p o b h1 h2 => h.own p o b (by rw [List.getElem?_append_left (List.getElem?_eq_some_iff.1 h1).1]; exact h1) h2
/-- A call of values alone, as a thing to be shown. -/
structure PU (P : Program) (g : FuncId) (args : List AV) (v : AV) : Prop where
  h : TPure P g args v
  p : purL args = true
def eqopP (A : Ar) (T : TyOps) (P : Program) (op : Op) (fr : AFr) (L : Store) (N : AV → Prop) : Prop :=
  match op with
  | .buildSlice t len parts => ebuildSlice T L t len (parts.toList.map fun p => (p.1, aval fr p.2)) fun v _ => N v
  | .call c => match c.callee with
    | .value f => match aval fr f with
      | .func (.func g) first captured => Ent P g ∧ ∃ v, PU P g (first ++ (c.args.toList.map (aval fr) ++ captured)) v ∧ N v
      | _ => False
    | _ => epop A T L op fr N
  | _ => epop A T L op fr N
theorem ay_valA {o : Oper} {fr : AFr} (hw : ∀ (a : Act) (w : World) (I : Nat → Prop) (ρ : List Nat), RepF w I ρ a.tmps (frOn (o.looksAt ops) fr) → Region.wanted o (yielded ops a.tmps) = true)
    {N : AV → Prop} (h : pop P L o (aval fr) N) : ∃ v, AYA P r K ops L o fr v ∧ N v := by
  have hd : ∀ c, o.op ≠ .defer c := fun c hc => by unfold pop at h; rw [hc] at h; exact h.elim
  obtain ⟨av, hN, hp⟩ := pop_ok (pop_congr (g' := aval (frOn (o.looksAt ops) fr)) (fun x hx => aval_frOn x hx) h)
  refine ⟨av, fun M => ay_yes hw (opTw_value hd ⟨av, L ++ M, ⟨rfl, rfl⟩, fun a w I ρ h1 h2 => ?_⟩), hN⟩
  obtain ⟨v, hrun, hv⟩ := hp a w I ρ (relW_app h1) h2
  exact ⟨v, w, I, ρ, .inl hrun, h1, hv, .refl .., .refl ..⟩
theorem eqopP_ok {A : Ar} {o : Oper} {fr : AFr} (hK : K ≤ L.length) (hw : ∀ (a : Act) (w : World) (I : Nat → Prop) (ρ : List Nat), RepF w I ρ a.tmps (frOn (o.looksAt ops) fr) → Region.wanted o (yielded ops a.tmps) = true)
    {N : AV → Prop} (h : eqopP A (tyOf P) P o.op fr L N) : ∃ v, AYA P r K ops L o fr v ∧ N v := by
  have fin : ∀ (v : AV), N v → (∀ M, eqop A (tyOf P) P o.op fr (L ++ M) (fun v' => v' = v)) → ∃ v, AYA P r K ops L o fr v ∧ N v := fun v hN hM => ⟨v, fun M => by
    obtain ⟨v', hy, rfl⟩ := eqop_ok (r := r) (ops := ops) (K := K) (by simp; omega) hw (hM M)
    exact hy, hN⟩
  unfold eqopP at h
  split at h
  · rename_i t len parts ho
    unfold ebuildSlice at h
    split at h
    · rename_i e hu
      obtain ⟨h1, hN⟩ := chk_iff.1 h
      refine fin _ hN fun M => ?_
      unfold eqop
      simp only [ho]
      unfold ebuildSlice
      have hu' : P.underlying t = some (.slice e) := hu
      simp only [hu']
      exact chk_iff.2 ⟨h1, trivial⟩
    · exact h.elim
  · rename_i c ho
    split at h
    · rename_i f hc
      split at h
      · rename_i g first captured hf
        obtain ⟨h1, v, hp, hN⟩ := h
        refine fin v hN fun M => ?_
        unfold eqop
        simp only [ho, hc, hf]
        exact ⟨h1, v, ⟨hp.h.call hp.p ⟨rfl, rfl⟩⟩, rfl⟩
      · exact h.elim
    · exact ay_valA hw (epop_ok (A := A) (by rw [ho]; exact ho ▸ h))
  · exact ay_valA hw (epop_ok h)
/-- What is known of an operation of such a region: the one at y lays the cell, all others are quiet. -/
def YA (P : Program) (r : Option Nat) (K : Nat) (ops : Array Oper) (L : Store) (y : Nat) (vy : AV) (i : Nat) (o : Oper) (fr : AFr) (v : AV) : Prop := (i = y ∧ v = vy) ∨ (i ≠ y ∧ AYA P r K ops L o fr v)
theorem YA.congr {y : Nat} {vy : AV} (i : Nat) (o : Oper) (fr fr' : AFr) (v : AV) (hn : fr.n = fr'.n) (h : ∀ t, t ∈ o.looksAt ops → aget fr t = aget fr' t) (hy : YA P r K ops L y vy i o fr v) : YA P r K ops L y vy i o fr' v :=
  hy.imp id fun ⟨a, b⟩ => ⟨a, fun M => (b M).congr hn h⟩
theorem anyV_sound {Q' : Exit → Act → World → Prop} {w0 : World} {I0 : Nat → Prop} {ρ : List Nat} {a0 : Act} {oz oy : Oper} {y : Nat} {vy : AV} {x : AO} (hB : tailB ops z = true) (hyz : y < z) (hoz : ops[z]? = some oz) (hgz : oz.guard = none) (hoy : ops[y]? = some oy) (hgy : oy.guard = none) (S : Base) (hd0 : DefOk S w0 I0 a0.defers)
    (hal : ∀ fr, OpTw P r K oy (fun av L' => av = vy ∧ L' = L ++ [some x]) (fun _ _ _ => False) fr L)
    (hZ : ∀ fr a w I ρ1 (nx : Act → World → Prop), Z fr → Rel w I ρ1 (L ++ [some x]) → RepF w I ρ1 a.tmps fr → Le w0 I0 ρ w I ρ1 → Ev K w0 I0 ρ L w I ρ1 (L ++ [some x]) → a.tmps.size = a0.tmps.size → a.defers = a0.defers → (∀ a w, Q' .normal a w → nx a w) → oz.wpIn (Fen r) 0 P a w nx Q') :
    ∀ (fuel : Nat) (listed : Array Bool) (fr : AFr) (a : Act) (w : World) (I : Nat → Prop), Closed ops listed → a.tmps.size = a0.tmps.size → a.defers = a0.defers →
      ((listed.getD y false = false ∧ Rel w I ρ L ∧ RepF w I ρ a.tmps fr ∧ Le w0 I0 ρ w I ρ ∧ Ev K w0 I0 ρ L w I ρ L) ∨ (listed.getD y false = true ∧ ∃ ρ1, Rel w I ρ1 (L ++ [some x]) ∧ RepF w I ρ1 a.tmps fr ∧ Le w0 I0 ρ w I ρ1 ∧ Ev K w0 I0 ρ L w I ρ1 (L ++ [some x]))) →
      anyV ops z Z (YA P r K ops L y vy) fuel listed fr → wpAnyIn (Fen r) 0 P .any ops Q' fuel listed a w
  | 0, listed, fr, a, w, I, hc, h5, h6, st, h => h.elim
  | fuel + 1, listed, fr, a, w, I, hc, h5, h6, st, h => by
    refine ⟨fun e => absurd e h.1, fun i hi => ?_⟩
    have hput : ∀ (d : Option Tmp) (u : Value), (a.put d u).defers = a0.defers := fun d u => (by cases d <;> rfl : (a.put d u).defers = a.defers).trans h6
    rcases h.2 i hi with ⟨rfl, he, hz⟩ | ⟨_, o, v, ho, hy, hn⟩
    · have hyl := tail_last hB hc hi y hyz
      rcases st with ⟨hf, _⟩ | ⟨_, ρ1, s1, s2, s3, s4⟩
      · rw [hf] at hyl; cases hyl
      unfold wpOpIn
      simp only [hoz]
      rw [if_pos (by unfold Region.wanted; simp [hgz])]
      refine hZ fr a w I ρ1 _ hz s1 s2 s3 s4 h5 h6 (fun a w hq => ?_)
      cases fuel with
      | zero => exact ⟨he, hq⟩
      | succ fuel => exact ⟨fun _ => hq, fun j hj => by rw [he] at hj; cases hj⟩
    · unfold wpOpIn
      simp only [ho]
      have hself : ∀ j, j ≠ i → (listed.setIfInBounds i true).getD j false = listed.getD j false := fun j hj => getD_set_ne false (Ne.symm hj)
      rcases hy with ⟨rfl, rfl⟩ | ⟨hne, hy⟩
      · rw [hoy] at ho; cases ho
        have hun := (mem_ready.1 hi).1
        have hlt : i < listed.size := by
          rcases Nat.lt_or_ge i listed.size with h' | h'
          · exact h'
          · simp [Array.getElem?_eq_none h'] at hun
        rcases st with ⟨hf, s1, s2, s3, s4⟩ | ⟨ht, _⟩
        · rw [if_pos (by unfold Region.wanted; simp [hgy])]
          have hop := hal fr S a w I ρ s1 s2 (h6 ▸ hd0.mono s3 s4.size) _ (fun u av L' w' I' ρ' ⟨e1, e2⟩ r1 r2 r3 r4 => by
            subst e1 e2
            obtain ⟨p1, p2⟩ := put_repF (s2.mono r3) r2 oy.dst
            exact anyV_sound hB hyz hoz hgz hoy hgy S hd0 hal hZ fuel _ _ _ w' I' (hc.set hi) (p2.trans h5) (hput ..) (.inr ⟨by simp [hlt], ρ', r1, p1, s3.trans r3, s4.trans r4⟩) hn)
          exact oper_swap (fun e a' w' hp => by obtain ⟨x, fr', L', I', ρ', hx, q, _⟩ := hp; exact q) hop
        · simp [hlt] at hun ht; rw [hun] at ht; cases ht
      · rcases st with ⟨hf, s1, s2, s3, s4⟩ | ⟨ht, ρ1, s1, s2, s3, s4⟩
        · have hy0 := hy []
          rw [List.append_nil] at hy0
          refine hy0 S a w I ρ _ Q' s1 ⟨s2.1, fun t => by rw [aget_frOn]; split; exact s2.2 t; exact .any _⟩ (h6 ▸ hd0.mono s3 s4.size) (fun u w' I' r1 r2 r3 r4 => ?_)
          obtain ⟨p1, p2⟩ := put_repF (s2.mono r3) r2 o.dst
          exact anyV_sound hB hyz hoz hgz hoy hgy S hd0 hal hZ fuel _ _ _ w' I' (hc.set hi) (p2.trans h5) (hput ..) (.inl ⟨by rw [hself y (Ne.symm hne)]; exact hf, r1, p1, s3.trans r3, s4.trans r4⟩) hn
        · refine hy [some x] S a w I ρ1 _ Q' s1 ⟨s2.1, fun t => by rw [aget_frOn]; split; exact s2.2 t; exact .any _⟩ (h6 ▸ hd0.mono s3 s4.size) (fun u w' I' r1 r2 r3 r4 => ?_)
          obtain ⟨p1, p2⟩ := put_repF (s2.mono r3) r2 o.dst
          exact anyV_sound hB hyz hoz hgz hoy hgy S hd0 hal hZ fuel _ _ _ w' I' (hc.set hi) (p2.trans h5) (hput ..) (.inr ⟨by rw [hself y (Ne.symm hne)]; exact ht, ρ1, r1, p1, s3.trans r3, s4.trans r4⟩) hn
theorem Tw.drawA {id : Nat} {Q : AEx → AFr → Store → Prop} {fr : AFr} {oz oy : Oper} {y : Nat} {vy : AV} {x : AO} (hm : P.follows .mixedOrders = true) (hB : Region.lexB .any ops = true) (hT : tailB ops z = true) (hz : z + 1 = ops.size) (hyz : y < z) (hoz : ops[z]? = some oz) (hgz : oz.guard = none) (hoy : ops[y]? = some oy) (hgy : oy.guard = none)
    (hal : ∀ fr, OpTw P r K oy (fun av L' => av = vy ∧ L' = L ++ [some x]) (fun _ _ _ => False) fr L)
    (h : lexV (lastT P r K (L ++ [some x]) oz Q) (YA P r K ops L y vy) 0 (ops.toList.take z) fr) : Tw P r K (.region id ops true) Q fr L := by
  intro S a w I ρ h1 h2 h3
  simp only [Region.lexB, Bool.and_eq_true] at hB
  have hlen : (ops.toList.take z).length = z := by simp; omega
  have hcl : Closed ops (Array.replicate ops.size false) := fun k i hk => by
    exfalso
    rcases Nat.lt_or_ge k ops.size with h' | h'
    · simp [h'] at hk
    · simp [h'] at hk
  have hany := anyV_lex (Y := YA P r K ops L y vy) (Z := lastT P r K (L ++ [some x]) oz Q) (fun i o fr fr' v hn ht hy => YA.congr i o fr fr' v hn ht hy) (fun fr fr' e ⟨f2, e2, q⟩ => ⟨f2, e.symm.trans e2, q⟩) hT hz (ops.toList.take z) 0 (Array.replicate ops.size false) fr (by omega)
    (fun j hj => by rw [hlen] at hj; simp [hj]) hcl (fun i hi => by omega) (by rw [hlen, hz]; exact hB.2) h
  refine wpIn_region_any hm ?_
  obtain ⟨d1, d2, d3⟩ := drewN_rel (K := K) (w := w) (w' := { w with drawn := w.drawn + 1 }) rfl rfl rfl rfl h1
  have hy0 : (Array.replicate ops.size false).getD y false = false := by
    rcases Nat.lt_or_ge y ops.size with h' | h'
    · simp [h']
    · simp [h']
  have := anyV_sound (P := P) (r := r) (K := K) (ops := ops) (L := L) (w0 := w) (I0 := I) (a0 := a) (Q' := Post S K Q a w I ρ L) hT hyz hoz hgz hoy hgy S h3 hal (fun fr' a' w' I' ρ1 nx ⟨f2, e2, q⟩ r1 r2 r3 r4 r5 r6 hnx => by
      have hop := q S a' w' I' ρ1 r1 (e2.rep r2) (by rw [r6]; exact h3.mono r3 r4.size) nx (fun v av L2 w2 I2 ρ2 hN s1 s2 s3 s4 => by
        obtain ⟨hp1, hp2⟩ := put_repF ((e2.rep r2).mono s3) s2 oz.dst
        refine hnx _ _ ⟨.normal, _, L2, I2, ρ2, trivial, hN, s1, hp1, ?_, r4.trans s4, hp2.trans r5⟩
        have : (a'.put oz.dst v).defers = a.defers := (by cases oz.dst <;> rfl : (a'.put oz.dst v).defers = a'.defers).trans r6
        rw [this]
        exact h3.mono (r3.trans s3) (Nat.le_trans r4.size s4.size))
      exact oper_post (fun e a1 w1 hp => Post.behind r4 r5 hp) hop)
    (ops.toList.take z).length.succ (Array.replicate ops.size false) fr a _ I hcl rfl rfl (.inl ⟨hy0, d1, h2.mono d2, d2, d3⟩) hany
  simpa [hlen, hz] using this
/-- Reckoned out. -/
def eqopsV (A : Ar) (T : TyOps) (P : Program) (L : Store) (y : Nat) (vy : AV) (Zt : AFr → Prop) : Nat → List Oper → AFr → Prop
  | _, [], fr => Zt fr
  | k, o :: rest, fr => match Nat.beq k y with
    | true => eqopsV A T P L y vy Zt (k + 1) rest (aputf o.dst vy fr)
    | false => match o.guard with
      | none => eqopP A T P o.op fr L fun av => eqopsV A T P L y vy Zt (k + 1) rest (aputf o.dst av fr)
      | some _ => False
theorem eqopsV_ok {A : Ar} {y : Nat} {vy : AV} {Zt : AFr → Prop} (hK : K ≤ L.length) : ∀ (l : List Oper) (k : Nat) (fr : AFr), eqopsV A (tyOf P) P L y vy Zt k l fr → lexV Zt (YA P r K ops L y vy) k l fr
  | [], _, _, h => h
  | o :: rest, k, fr, h => by
    simp only [eqopsV] at h
    split at h
    · rename_i hk
      exact ⟨vy, .inl ⟨Nat.eq_of_beq_eq_true hk, rfl⟩, eqopsV_ok hK rest (k + 1) _ h⟩
    · rename_i hk
      split at h
      · rename_i hg
        obtain ⟨v, hy, hN⟩ := eqopP_ok (r := r) (ops := ops) hK (fun a w I ρ _ => by unfold Region.wanted; simp [hg]) h
        exact ⟨v, .inr ⟨fun e => by subst e; simp at hk, hy⟩, eqopsV_ok hK rest (k + 1) _ hN⟩
      · exact h.elim
theorem lexV.mono {Z' : AFr → Prop} (hZ : ∀ fr, Z fr → Z' fr) : ∀ (l : List Oper) (k : Nat) (fr : AFr), lexV Z Y k l fr → lexV Z' Y k l fr
  | [], _, fr, h => hZ fr h
  | o :: l, k, fr, ⟨v, hy, h⟩ => ⟨v, hy, lexV.mono hZ l (k + 1) _ h⟩
/-- A region that draws its order: one operation lays a new cell, the last writes, all others are quiet. -/
theorem TW.drawA {A : Ar} {T : TyOps} {id : Nat} {Q : AEx → AFr → Store → Prop} {fr : AFr} {oz oy : Oper} {ty : TypeId} (y : Nat) (zv : AV) (hT : T = tyOf P) (hm : P.follows .mixedOrders = true) (hB : Region.lexB .any ops = true) (hz : z + 1 = ops.size) (hTl : tailB ops z = true) (hyz : Nat.blt y z = true) (hoz : ops[z]? = some oz) (hgz : oz.guard = none) (hoy : ops[y]? = some oy) (hgy : oy.guard = none) (hop : oy.op = .alloc ty) (hK : Nat.ble K L.length = true)
    (hal : ealloc T K L ty (fun av L' => av = .ref L.length zv.cells.length 0 0 ∧ L' = L ++ [some (.box zv.cells.length zv)]))
    (h : eqopsV A T P L y (.ref L.length zv.cells.length 0 0) (fun fr' => erop A T P K oz.op fr' (L ++ [some (.box zv.cells.length zv)]) (fun av L' => Q .normal (aputf oz.dst av fr') L') Q) 0 (ops.toList.take z) fr) : TW P r K (.region id ops true) Q fr L := by
  subst hT
  refine ⟨Tw.drawA hm hB hTl hz (Nat.le_of_ble_eq_true hyz) hoz hgz hoy hgy (vy := .ref L.length zv.cells.length 0 0) (x := .box zv.cells.length zv) (fun fr => ?_) ?_⟩
  · refine rop_ok (erop_ok (A := A) ?_)
    unfold erop
    rw [hop]
    exact hal
  · exact lexV.mono (fun fr q => ⟨fr, ⟨rfl, fun _ => rfl⟩, rop_ok (erop_ok q)⟩) _ _ _ (eqopsV_ok (by simpa using hK) _ _ _ h)
end
end Go.Proofs.Ytaieiigfheabfaa.Tw

/-! Regions that draw their order, in which new cells are laid and filled, in one order among themselves. -/
namespace Go.Proofs.Ytaieiigfheabfaa.Tw
open Go.RowKit
set_option linter.unusedVariables false
set_option linter.unusedSimpArgs false
section
variable {P : Program} {r : Option Nat} {K : Nat} {ops : Array Oper} {L : Store} {z : Nat} {Z : AFr → Prop} {ph : List (Nat × Store)}
def Mof (ph : List (Nat × Store)) : Nat → Store
  | 0 => []
  | j + 1 => ((ph[j]?).map (·.2)).getD []
def phAt (ph : List (Nat × Store)) (j : Nat) : Option Nat := (ph[j]?).map (·.1)
def waitB (ops : Array Oper) (k i : Nat) : Bool := (clos ops k (deps ops k)).contains i
theorem wait_listed {listed : Array Bool} {k i : Nat} (hB : waitB ops k i = true) (hc : Closed ops listed) (h : k ∈ Region.ready .any ops listed) : listed.getD i false = true :=
  clos_listed hc k _ (deps_ready h) i (by simpa [waitB] using hB)
/-- One of the operations that lay and fill. -/
def PhOp (P : Program) (r : Option Nat) (K : Nat) (ops : Array Oper) (L : Store) (o : Oper) (fr : AFr) (v : AV) (M M' : Store) : Prop :=
  o.guard = none ∧ OpTw P r K o (fun av L' => av = v ∧ L' = L ++ M') (fun _ _ _ => False) (frOn (o.looksAt ops) fr) (L ++ M)
def YP (P : Program) (r : Option Nat) (K : Nat) (ops : Array Oper) (L : Store) (ph : List (Nat × Store)) (i : Nat) (o : Oper) (fr : AFr) (v : AV) : Prop :=
  (∃ j, phAt ph j = some i ∧ PhOp P r K ops L o fr v (Mof ph j) (Mof ph (j + 1))) ∨ ((∀ j, phAt ph j ≠ some i) ∧ AYA P r K ops L o fr v)
theorem OpTw.feq {o : Oper} {N : AV → Store → Prop} {E : AEx → AFr → Store → Prop} {fr fr' : AFr} {L : Store} (e : FEq fr' fr) (h : OpTw P r K o N E fr L) : OpTw P r K o N E fr' L :=
  fun S a w I ρ h1 h2 h3 => h S a w I ρ h1 (e.rep h2) h3
theorem frOn_feq {S : List Nat} {fr fr' : AFr} (hn : fr.n = fr'.n) (h : ∀ t, t ∈ S → aget fr t = aget fr' t) : FEq (frOn S fr') (frOn S fr) := ⟨hn.symm, fun t => by
  rw [aget_frOn, aget_frOn]
  split
  · rename_i ht; exact (h t ht).symm
  · rfl⟩
theorem YP.congr (i : Nat) (o : Oper) (fr fr' : AFr) (v : AV) (hn : fr.n = fr'.n) (h : ∀ t, t ∈ o.looksAt ops → aget fr t = aget fr' t) (hy : YP P r K ops L ph i o fr v) : YP P r K ops L ph i o fr' v :=
  hy.imp (fun ⟨j, a, g, b⟩ => ⟨j, a, g, b.feq (frOn_feq hn h)⟩) fun ⟨a, b⟩ => ⟨a, fun M => (b M).congr hn h⟩
structure PhOk (ops : Array Oper) (z : Nat) (ph : List (Nat × Store)) : Prop where
  lt : ∀ j i, phAt ph j = some i → i < z
  inj : ∀ j j' i, phAt ph j = some i → phAt ph j' = some i → j = j'
  wait : ∀ j i i', phAt ph j = some i → phAt ph (j + 1) = some i' → waitB ops i' i = true
theorem anyP_sound {Q' : Exit → Act → World → Prop} {w0 : World} {I0 : Nat → Prop} {ρ : List Nat} {a0 : Act} {oz : Oper} (hB : tailB ops z = true) (hp : PhOk ops z ph) (hoz : ops[z]? = some oz) (hgz : oz.guard = none) (S : Base) (hd0 : DefOk S w0 I0 a0.defers)
    (hZ : ∀ fr a w I ρ1 (nx : Act → World → Prop), Z fr → Rel w I ρ1 (L ++ Mof ph ph.length) → RepF w I ρ1 a.tmps fr → Le w0 I0 ρ w I ρ1 → Ev K w0 I0 ρ L w I ρ1 (L ++ Mof ph ph.length) → a.tmps.size = a0.tmps.size → a.defers = a0.defers → (∀ a w, Q' .normal a w → nx a w) → oz.wpIn (Fen r) 0 P a w nx Q') :
    ∀ (fuel : Nat) (listed : Array Bool) (fr : AFr) (a : Act) (w : World) (I : Nat → Prop) (c : Nat) (ρ1 : List Nat), Closed ops listed → a.tmps.size = a0.tmps.size → a.defers = a0.defers →
      c ≤ ph.length → (∀ j i, phAt ph j = some i → (listed.getD i false = true ↔ j < c)) → Rel w I ρ1 (L ++ Mof ph c) → RepF w I ρ1 a.tmps fr → Le w0 I0 ρ w I ρ1 → Ev K w0 I0 ρ L w I ρ1 (L ++ Mof ph c) →
      anyV ops z Z (YP P r K ops L ph) fuel listed fr → wpAnyIn (Fen r) 0 P .any ops Q' fuel listed a w
  | 0, listed, fr, a, w, I, c, ρ1, hc, h5, h6, hcl, hci, s1, s2, s3, s4, h => h.elim
  | fuel + 1, listed, fr, a, w, I, c, ρ1, hc, h5, h6, hcl, hci, s1, s2, s3, s4, h => by
    refine ⟨fun e => absurd e h.1, fun i hi => ?_⟩
    have hput : ∀ (d : Option Tmp) (u : Value), (a.put d u).defers = a0.defers := fun d u => (by cases d <;> rfl : (a.put d u).defers = a.defers).trans h6
    rcases h.2 i hi with ⟨rfl, he, hz⟩ | ⟨_, o, v, ho, hy, hn⟩
    · have hce : c = ph.length := by
        rcases Nat.lt_or_ge c ph.length with h' | h'
        · exfalso
          have hsome : phAt ph c = some (ph[c]'(h')).1 := by simp [phAt, h']
          have hl := tail_last hB hc hi _ (hp.lt c _ hsome)
          exact absurd ((hci c _ hsome).1 hl) (Nat.lt_irrefl _)
        · omega
      subst hce
      unfold wpOpIn
      simp only [hoz]
      rw [if_pos (by unfold Region.wanted; simp [hgz])]
      refine hZ fr a w I ρ1 _ hz s1 s2 s3 s4 h5 h6 (fun a w hq => ?_)
      cases fuel with
      | zero => exact ⟨he, hq⟩
      | succ fuel => exact ⟨fun _ => hq, fun j hj => by rw [he] at hj; cases hj⟩
    · unfold wpOpIn
      simp only [ho]
      have hself : ∀ j, j ≠ i → (listed.setIfInBounds i true).getD j false = listed.getD j false := fun j hj => getD_set_ne false (Ne.symm hj)
      have hun := (mem_ready.1 hi).1
      have hlt : i < listed.size := by
        rcases Nat.lt_or_ge i listed.size with h' | h'
        · exact h'
        · simp [Array.getElem?_eq_none h'] at hun
      have hunf : listed.getD i false = false := by simp [hlt] at hun ⊢; exact hun
      rcases hy with ⟨j, hj, hg, hop⟩ | ⟨hne, hy⟩
      · have hjc : j = c := by
          have h1 : ¬ j < c := fun h' => by have := (hci j i hj).2 h'; rw [hunf] at this; cases this
          cases j with
          | zero => omega
          | succ j =>
            have hjl : j + 1 < ph.length := by
              simp only [phAt, Option.map_eq_some_iff] at hj
              obtain ⟨x, hx, _⟩ := hj
              exact (List.getElem?_eq_some_iff.1 hx).1
            have hsome : phAt ph j = some (ph[j]'(by omega)).1 := by simp [phAt, show j < ph.length from by omega]
            have hl := wait_listed (hp.wait j _ i hsome hj) hc hi
            have := (hci j _ hsome).1 hl
            omega
        subst hjc
        rw [if_pos (by unfold Region.wanted; simp [hg])]
        have hjl : j < ph.length := by
          simp only [phAt, Option.map_eq_some_iff] at hj
          obtain ⟨x, hx, _⟩ := hj
          exact (List.getElem?_eq_some_iff.1 hx).1
        have := hop S a w I ρ1 s1 ⟨s2.1, fun t => by rw [aget_frOn]; split; exact s2.2 t; exact .any _⟩ (h6 ▸ hd0.mono s3 s4.size) _ (fun u av L' w' I' ρ' ⟨e1, e2⟩ r1 r2 r3 r4 => by
          subst e1 e2
          obtain ⟨p1, p2⟩ := put_repF (s2.mono r3) r2 o.dst
          exact anyP_sound hB hp hoz hgz S hd0 hZ fuel _ _ _ w' I' (j + 1) ρ' (hc.set hi) (p2.trans h5) (hput ..) hjl (fun j' i' hj' => by
            by_cases e : i' = i
            · subst e
              have := hp.inj j' j i' hj' hj
              subst this
              simp [hlt]
            · rw [hself i' e, hci j' i' hj']
              have : j' ≠ j := fun e' => by subst e'; rw [hj] at hj'; exact e (Option.some.inj hj').symm
              omega) r1 p1 (s3.trans r3) (s4.trans r4) hn)
        exact oper_swap (fun e a' w' hp => by obtain ⟨x, fr', L', I', ρ', hx, q, _⟩ := hp; exact q) this
      · refine hy (Mof ph c) S a w I ρ1 _ Q' s1 ⟨s2.1, fun t => by rw [aget_frOn]; split; exact s2.2 t; exact .any _⟩ (h6 ▸ hd0.mono s3 s4.size) (fun u w' I' r1 r2 r3 r4 => ?_)
        obtain ⟨p1, p2⟩ := put_repF (s2.mono r3) r2 o.dst
        exact anyP_sound hB hp hoz hgz S hd0 hZ fuel _ _ _ w' I' c ρ1 (hc.set hi) (p2.trans h5) (hput ..) hcl (fun j' i' hj' => by
          rw [hself i' (fun e => hne j' (e ▸ hj'))]
          exact hci j' i' hj') r1 p1 (s3.trans r3) (s4.trans r4) hn
theorem Tw.drawP {id : Nat} {Q : AEx → AFr → Store → Prop} {fr : AFr} {oz : Oper} (hm : P.follows .mixedOrders = true) (hB : Region.lexB .any ops = true) (hT : tailB ops z = true) (hp : PhOk ops z ph) (hz : z + 1 = ops.size) (hoz : ops[z]? = some oz) (hgz : oz.guard = none)
    (h : lexV (lastT P r K (L ++ Mof ph ph.length) oz Q) (YP P r K ops L ph) 0 (ops.toList.take z) fr) : Tw P r K (.region id ops true) Q fr L := by
  intro S a w I ρ h1 h2 h3
  simp only [Region.lexB, Bool.and_eq_true] at hB
  have hlen : (ops.toList.take z).length = z := by simp; omega
  have hrep : ∀ k, (Array.replicate ops.size false).getD k false = false := fun k => by
    rcases Nat.lt_or_ge k ops.size with h' | h'
    · simp [h']
    · simp [h']
  have hcl : Closed ops (Array.replicate ops.size false) := fun k i hk => by rw [hrep] at hk; cases hk
  have hany := anyV_lex (Y := YP P r K ops L ph) (Z := lastT P r K (L ++ Mof ph ph.length) oz Q) (fun i o fr fr' v hn ht hy => YP.congr i o fr fr' v hn ht hy) (fun fr fr' e ⟨f2, e2, q⟩ => ⟨f2, e.symm.trans e2, q⟩) hT hz (ops.toList.take z) 0 (Array.replicate ops.size false) fr (by omega)
    (fun j hj => by rw [hlen] at hj; simp [hj]) hcl (fun i hi => by omega) (by rw [hlen, hz]; exact hB.2) h
  refine wpIn_region_any hm ?_
  obtain ⟨d1, d2, d3⟩ := drewN_rel (K := K) (w := w) (w' := { w with drawn := w.drawn + 1 }) rfl rfl rfl rfl h1
  have := anyP_sound (P := P) (r := r) (K := K) (ops := ops) (L := L) (w0 := w) (I0 := I) (ρ := ρ) (a0 := a) (Q' := Post S K Q a w I ρ L) hT hp hoz hgz S h3 (fun fr' a' w' I' ρ1 nx ⟨f2, e2, q⟩ r1 r2 r3 r4 r5 r6 hnx => by
      have hop := q S a' w' I' ρ1 r1 (e2.rep r2) (by rw [r6]; exact h3.mono r3 r4.size) nx (fun v av L2 w2 I2 ρ2 hN s1 s2 s3 s4 => by
        obtain ⟨hp1, hp2⟩ := put_repF ((e2.rep r2).mono s3) s2 oz.dst
        refine hnx _ _ ⟨.normal, _, L2, I2, ρ2, trivial, hN, s1, hp1, ?_, r4.trans s4, hp2.trans r5⟩
        have : (a'.put oz.dst v).defers = a.defers := (by cases oz.dst <;> rfl : (a'.put oz.dst v).defers = a'.defers).trans r6
        rw [this]
        exact h3.mono (r3.trans s3) (Nat.le_trans r4.size s4.size))
      exact oper_post (fun e a1 w1 hp => Post.behind r4 r5 hp) hop)
    (ops.toList.take z).length.succ (Array.replicate ops.size false) fr a _ I 0 ρ hcl rfl rfl (Nat.zero_le _) (fun j i hj => by rw [hrep]; simp) (by simpa [Mof] using d1) (h2.mono d2) d2 (by simpa [Mof] using d3) hany
  simpa [hlen, hz] using this
def adjB (ops : Array Oper) : List (Nat × Store) → Bool
  | x :: y :: l => waitB ops y.1 x.1 && Nat.blt x.1 y.1 && adjB ops (y :: l)
  | _ => true
theorem adj_lt : ∀ {ph : List (Nat × Store)}, adjB ops ph = true → ∀ (j d i i' : Nat), phAt ph j = some i → phAt ph (j + d + 1) = some i' → i < i'
  | [], _, j, d, i, i', h, _ => by simp [phAt] at h
  | [x], _, j, d, i, i', h, h' => by simp [phAt] at h'
  | x :: y :: l, hB, j, d, i, i', h, h' => by
    simp only [adjB, Bool.and_eq_true] at hB
    have h1 : x.1 < y.1 := Nat.le_of_ble_eq_true hB.1.2
    cases j with
    | zero =>
      simp [phAt] at h
      subst h
      cases d with
      | zero => simp [phAt] at h'; subst h'; exact h1
      | succ d => exact Nat.lt_trans h1 (adj_lt hB.2 0 d y.1 i' (by simp [phAt]) (by simpa [phAt] using h'))
    | succ j => exact adj_lt hB.2 j d i i' (by simpa [phAt] using h) (by rw [show j + 1 + d + 1 = (j + d + 1) + 1 from by omega] at h'; simpa [phAt] using h')
theorem adj_wait : ∀ {ph : List (Nat × Store)}, adjB ops ph = true → ∀ (j i i' : Nat), phAt ph j = some i → phAt ph (j + 1) = some i' → waitB ops i' i = true
  | [], _, j, i, i', h, _ => by simp [phAt] at h
  | [x], _, j, i, i', h, h' => by simp [phAt] at h'
  | x :: y :: l, hB, j, i, i', h, h' => by
    simp only [adjB, Bool.and_eq_true] at hB
    cases j with
    | zero => simp [phAt] at h h'; subst h h'; exact hB.1.1
    | succ j => exact adj_wait hB.2 j i i' (by simpa [phAt] using h) (by simpa [phAt] using h')
theorem phOk_of (h1 : (ph.all fun x => Nat.blt x.1 z) = true) (h2 : adjB ops ph = true) : PhOk ops z ph where
  lt j i h := by
    simp only [phAt, Option.map_eq_some_iff] at h
    obtain ⟨x, hx, rfl⟩ := h
    exact Nat.le_of_ble_eq_true (List.all_eq_true.1 h1 x (List.mem_of_getElem? hx))
  inj j j' i h h' := by
    rcases Nat.lt_trichotomy j j' with hlt | rfl | hlt
    · have := adj_lt h2 j (j' - j - 1) i i h (by rw [show j + (j' - j - 1) + 1 = j' from by omega]; exact h'); omega
    · rfl
    · have := adj_lt h2 j' (j - j' - 1) i i h' (by rw [show j' + (j - j' - 1) + 1 = j from by omega]; exact h); omega
  wait j i i' h h' := adj_wait h2 j i i' h h'
def ephase (A : Ar) (T : TyOps) (P : Program) (K : Nat) (op : Op) (fr : AFr) (L : Store) (N : AV → Store → Prop) : Prop :=
  match op with
  | .box t x => ebox K L (aval fr x) N
  | .alloc t => ealloc T K L t N
  | .store t ad x => estore T L t (aval fr ad) (aval fr x) N
  | .call c => match c.callee with
    | .builtin .append => match c.args.toList, c.argTypes.toList with
      | [s, x], [t, t'] => chk (t == t') (eappend T K L t (aval fr s) (aval fr x) N)
      | _, _ => False
    | .value f => match aval fr f with
      | .func (.func g) first captured => chk (Nat.ble K L.length) (Ent P g ∧ ∃ v L', TC P g (first ++ (c.args.toList.map (aval fr) ++ captured)) L (fun e M => e = .ret v ∧ M = L') ∧ N v L')
      | _ => False
    | _ => False
  | _ => False
theorem ephase_ok {A : Ar} {o : Oper} {fr : AFr} {N : AV → Store → Prop} (h : ephase A (tyOf P) P K o.op fr L N) : ∃ av L', N av L' ∧ OpTw P r K o (fun av' L'' => av' = av ∧ L'' = L') (fun _ _ _ => False) (frOn (o.looksAt ops) fr) L := by
  have hmem : ∀ x ∈ o.op.operands, aval fr x = aval (frOn (o.looksAt ops) fr) x := fun x hx => aval_frOn x hx
  have fin : (∀ c, o.op ≠ .defer c) → WOk P K L (fun a w => (execOp a.eval o).run P w) (frOn (o.looksAt ops) fr) N → ∃ av L', N av L' ∧ OpTw P r K o (fun av' L'' => av' = av ∧ L'' = L') (fun _ _ _ => False) (frOn (o.looksAt ops) fr) L :=
    fun hd ⟨av, L', hN, hr⟩ => ⟨av, L', hN, opTw_value hd ⟨av, L', ⟨rfl, rfl⟩, hr⟩⟩
  unfold ephase at h
  split at h
  · rename_i t x ho
    rw [hmem x (by rw [ho]; simp [Op.operands])] at h
    exact fin (by rw [ho]; intro c h; cases h) (abox_ok ho (ebox_ok h))
  · rename_i t ho
    exact fin (by rw [ho]; intro c h; cases h) (aalloc_ok ho (ealloc_ok h))
  · rename_i t ad x ho
    rw [hmem x (by rw [ho]; simp [Op.operands]), hmem ad (by rw [ho]; simp [Op.operands])] at h
    exact fin (by rw [ho]; intro c h; cases h) (astore_ok ho (estore_ok h))
  · rename_i c ho
    obtain ⟨callee, args, ats⟩ := c
    dsimp only at h
    split at h
    · split at h
      · rename_i s x t t' hx ht
        obtain rfl : t = t' := by simpa using (chk_iff.1 h).1
        have e1 : args = #[s, x] := by rw [← Array.toArray_toList (xs := args), hx]
        have e2 : ats = #[t, t] := by rw [← Array.toArray_toList (xs := ats), ht]
        subst e1 e2
        rw [hmem s (by rw [ho]; simp [Op.operands, Call.operands]), hmem x (by rw [ho]; simp [Op.operands, Call.operands])] at h
        exact fin (by rw [ho]; intro c h; cases h) (aappend_ok ho (eappend_ok (chk_iff.1 h).2))
      · exact h.elim
    · rename_i f
      split at h
      · rename_i g first captured hf
        obtain ⟨hK, h1, v, L', htc, hN⟩ := chk_iff.1 h
        refine ⟨v, L', hN, opTw_call (f := f) (args := args) (ats := ats) ho (by simpa using hK) ?_⟩
        have ef : aval fr f = aval (frOn (o.looksAt ops) fr) f := hmem f (by rw [ho]; simp [Op.operands, Call.operands])
        have ea : args.toList.map (aval fr) = args.toList.map (aval (frOn (o.looksAt ops) fr)) := List.map_congr_left fun x hx => hmem x (by rw [ho]; simp [Op.operands, Call.operands]; exact .inr (by simpa using hx))
        unfold acallv
        rw [← ef, ← ea, hf]
        refine ⟨h1.h, ?_⟩
        have := htc.h
        simp only [List.append_assoc] at this ⊢
        exact this.mono fun x L'' hx => by obtain ⟨rfl, rfl⟩ := hx; exact ⟨rfl, rfl⟩
      · exact h.elim
    · exact h.elim
  · exact h.elim
/-- Reckoned out. -/
def eqopsF (A : Ar) (T : TyOps) (P : Program) (K : Nat) (L : Store) (full : List (Nat × Store)) (Zt : AFr → Prop) : Store → List (Nat × Store) → Nat → List Oper → AFr → Prop
  | _, _, _, [], fr => Zt fr
  | M, [], k, o :: rest, fr => match o.guard with
    | none => chk (full.all fun x => !Nat.beq x.1 k) (eqopP A T P o.op fr L fun av => eqopsF A T P K L full Zt M [] (k + 1) rest (aputf o.dst av fr))
    | some _ => False
  | M, (i, M') :: ph', k, o :: rest, fr => match o.guard with
    | none => match Nat.beq k i with
      | true => ephase A T P K o.op fr (L ++ M) fun av L' => Nd (fun _ => L' = L ++ M') (eqopsF A T P K L full Zt M' ph' (k + 1) rest (aputf o.dst av fr))
      | false => chk (full.all fun x => !Nat.beq x.1 k) (eqopP A T P o.op fr L fun av => eqopsF A T P K L full Zt M ((i, M') :: ph') (k + 1) rest (aputf o.dst av fr))
    | some _ => False
theorem notPh {k : Nat} (h : (ph.all fun x => !Nat.beq x.1 k) = true) : ∀ j, phAt ph j ≠ some k := fun j hj => by
  simp only [phAt, Option.map_eq_some_iff] at hj
  obtain ⟨x, hx, rfl⟩ := hj
  have := List.all_eq_true.1 h x (List.mem_of_getElem? hx)
  simp at this
theorem eqopsF_ok {A : Ar} {Zt : AFr → Prop} (hK : K ≤ L.length) : ∀ (l : List Oper) (pre ph' : List (Nat × Store)) (k : Nat) (fr : AFr), ph = pre ++ ph' → eqopsF A (tyOf P) P K L ph Zt (Mof ph pre.length) ph' k l fr → lexV Zt (YP P r K ops L ph) k l fr
  | [], pre, [], _, _, _, h => h
  | [], pre, _ :: _, _, _, _, h => h
  | o :: rest, pre, [], k, fr, e, h => by
    simp only [eqopsF] at h
    split at h
    · rename_i hg
      obtain ⟨h1, h⟩ := chk_iff.1 h
      obtain ⟨v, hy, hN⟩ := eqopP_ok (r := r) (ops := ops) hK (fun a w I ρ _ => by unfold Region.wanted; simp [hg]) h
      exact ⟨v, .inr ⟨notPh h1, hy⟩, eqopsF_ok hK rest pre [] (k + 1) _ e hN⟩
    · exact h.elim
  | o :: rest, pre, (i, M') :: ph', k, fr, e, h => by
    simp only [eqopsF] at h
    split at h
    · rename_i hg
      split at h
      · rename_i hk
        obtain ⟨av, L', ⟨hL, hN⟩, hop⟩ := ephase_ok (r := r) (ops := ops) h
        subst hL
        have hat : ph[pre.length]? = some (i, M') := by rw [e]; simp
        have hM : Mof ph (pre.length + 1) = M' := by simp [Mof, hat]
        refine ⟨av, .inl ⟨pre.length, by simp [phAt, hat, Nat.eq_of_beq_eq_true hk], hg, by rw [hM]; exact hop⟩, eqopsF_ok hK rest (pre ++ [(i, M')]) ph' (k + 1) _ (by rw [e]; simp) (by simpa [hM] using hN)⟩
      · obtain ⟨h1, h⟩ := chk_iff.1 h
        obtain ⟨v, hy, hN⟩ := eqopP_ok (r := r) (ops := ops) hK (fun a w I ρ _ => by unfold Region.wanted; simp [hg]) h
        exact ⟨v, .inr ⟨notPh h1, hy⟩, eqopsF_ok hK rest pre _ (k + 1) _ e hN⟩
    · exact h.elim
/-- A region that draws its order: new cells are laid and filled (ph: which operations, and what there is behind them), the rest is quiet, the last waits for all. -/
theorem TW.drawP {A : Ar} {T : TyOps} {id : Nat} {Q : AEx → AFr → Store → Prop} {fr : AFr} {oz : Oper} (ph : List (Nat × Store)) (hT : T = tyOf P) (hm : P.follows .mixedOrders = true) (hB : Region.lexB .any ops = true) (hz : z + 1 = ops.size) (hTl : tailB ops z = true) (hp1 : (ph.all fun x => Nat.blt x.1 z) = true) (hp2 : adjB ops ph = true) (hoz : ops[z]? = some oz) (hgz : oz.guard = none) (hK : Nat.ble K L.length = true)
    (h : eqopsF A T P K L ph (fun fr' => erop A T P K oz.op fr' (L ++ Mof ph ph.length) (fun av L' => Q .normal (aputf oz.dst av fr') L') Q) [] ph 0 (ops.toList.take z) fr) : TW P r K (.region id ops true) Q fr L := by
  subst hT
  refine ⟨Tw.drawP hm hB hTl (phOk_of hp1 hp2) hz hoz hgz ?_⟩
  exact lexV.mono (fun fr q => ⟨fr, ⟨rfl, fun _ => rfl⟩, rop_ok (erop_ok q)⟩) _ _ _ (eqopsF_ok (by simpa using hK) _ [] ph 0 fr (by simp) h)
end
end Go.Proofs.Ytaieiigfheabfaa.Tw

/-! A row that boxes point to is moved down with all that points to it. -/
namespace Go.Proofs.Ytaieiigfheabfaa.Tw
open Go.RowKit
set_option linter.unusedVariables false
set_option linter.unusedSimpArgs false
/-- Objects, when what lies at q lies at n from here on. -/
inductive MvO (q n : Nat) : AO → AO → Prop
  | keep (o : AO) (h : o.upto n = true) : MvO q n o o
  | box (w off k : Nat) : MvO q n (.box 1 (.row q w off k)) (.box 1 (.row n w off k))
theorem MvO.rel {q n b c : Nat} {w : World} {I : Nat → Prop} {ρ : List Nat} (hn : n ≤ ρ.length) (hb : ρ[q]? = some b) {o o' : AO} (h : MvO q n o o') (ho : ObjRel w I ρ c o) : ObjRel w I (ρ.take n ++ [b]) c o' := by
  have hle : Le w I (ρ.take n) w I (ρ.take n ++ [b]) := ⟨fun _ _ => rfl, fun _ h => h, fun _ _ h => rho_app h, fun _ C _ h => ⟨C, h, rfl⟩⟩
  cases h with
  | keep _ h => exact (ho.take n h).mono hle rfl
  | box wd off k =>
    obtain ⟨C, t, h1, h2, h3⟩ := ho
    refine ⟨C, t, h1, h2, fun i e he => ?_⟩
    have hi := (List.getElem?_eq_some_iff.1 he).1
    simp at hi
    subst hi
    simp at he
    subst he
    refine ⟨rfl, fun j x hx => ?_⟩
    cases j with
    | succ j => simp [AV.cells] at hx
    | zero =>
      simp [AV.cells] at hx
      subst hx
      obtain ⟨v, hv, hr⟩ := (h3 0 _ rfl).2 0 _ rfl
      exact ⟨v, hv, (Mv.row wd off k).rep hn hb hr⟩
inductive MvS (q n : Nat) : Nat → Store → Store → Prop
  | nil (p : Nat) (L : Store) : MvS q n p L []
  | gone {p : Nat} {x : Option AO} {L L0 : Store} (k : MvS q n (p + 1) L L0) : MvS q n p (x :: L) (none :: L0)
  | obj {p : Nat} {o o' : AO} {L L0 : Store} (h : MvO q n o o') (hp : p ≠ q) (k : MvS q n (p + 1) L L0) : MvS q n p (some o :: L) (some o' :: L0)
theorem MvS.get {q n p : Nat} {L L0 : Store} (h : MvS q n p L L0) : ∀ (i : Nat) (o' : AO), L0[i]? = some (some o') → ∃ o, L[i]? = some (some o) ∧ MvO q n o o' ∧ p + i ≠ q := by
  induction h with
  | nil => intro i o' h; simp at h
  | gone k ih =>
    intro i o' h
    cases i with
    | zero => simp at h
    | succ i =>
      obtain ⟨o, h1, h2, h3⟩ := ih i o' (by simpa using h)
      exact ⟨o, by simpa using h1, h2, by omega⟩
  | obj h hp k ih =>
    intro i o' h'
    cases i with
    | zero => simp at h'; subst h'; exact ⟨_, rfl, h, by simpa using hp⟩
    | succ i =>
      obtain ⟨o, h1, h2, h3⟩ := ih i o' (by simpa using h')
      exact ⟨o, by simpa using h1, h2, by omega⟩
theorem VS.settle2 {K m : Nat} {fr : AFr} {L L0 : Store} {l : List (Nat × AV)} {o : AO} (q n : Nat) (hm : fr.n = m) (hK : K ≤ n) (hq : n ≤ L.length) (ho : L[q]? = some (some o)) (hu : o.upto n = true) (hl : L0.length = n) (hL : MvS q n 0 L L0) (h : MvL q n fr l) : VS K fr L ⟨m, l⟩ (L0 ++ [some o]) := fun w I ρ tmps h1 h2 => by
  have hql := (List.getElem?_eq_some_iff.1 ho).1
  have hlen := h1.len
  obtain ⟨b, hb⟩ : ∃ b, ρ[q]? = some b := ⟨_, List.getElem?_eq_getElem (by omega)⟩
  have hnl : n ≤ ρ.length := by omega
  have hle : Le w I (ρ.take n) w I (ρ.take n ++ [b]) := ⟨fun _ _ => rfl, fun _ h => h, fun _ _ h => rho_app h, fun _ C _ h => ⟨C, h, rfl⟩⟩
  have cs : ∀ (p : Nat) (x : AO) (c : Nat), (L0 ++ [some o])[p]? = some (some x) → (ρ.take n ++ [b])[p]? = some c → (∃ x0, p ≠ q ∧ p < n ∧ L[p]? = some (some x0) ∧ ρ[p]? = some c ∧ MvO q n x0 x) ∨ (p = n ∧ x = o ∧ c = b) := by
    intro p x c h3 h4
    by_cases hp : p < n
    · rw [List.getElem?_append_left (by omega)] at h3
      rw [List.getElem?_append_left (by simp; omega), List.getElem?_take, if_pos hp] at h4
      obtain ⟨x0, q1, q2, q3⟩ := hL.get p x h3
      exact .inl ⟨x0, by omega, hp, q1, h4, q2⟩
    · have e2 : (ρ.take n).length = n := by simp; omega
      rw [List.getElem?_append_right (by omega), hl] at h3
      rw [List.getElem?_append_right (by omega), e2] at h4
      have : p - n = 0 := by
        have := (List.getElem?_eq_some_iff.1 h3).1
        simp at this
        omega
      rw [this] at h3 h4
      simp at h3 h4
      exact .inr ⟨by omega, h3.symm, h4.symm⟩
  refine ⟨I, ρ.take n ++ [b], fun _ h => h, fun _ h => .inl h, fun c ⟨p, x, h3, h4⟩ => ?_, fun p hp => ?_, ⟨by simp; omega, fun p x c h3 h4 => ?_, fun p p' x y c h3 h4 h5 h6 => ?_, h1.imm⟩, h2.1.trans hm, fun t => ?_⟩
  · rcases cs p x c h3 h4 with ⟨x0, _, _, q1, q2, _⟩ | ⟨rfl, rfl, rfl⟩
    · exact ⟨p, x0, q1, q2⟩
    · exact ⟨q, _, ho, hb⟩
  · rw [List.getElem?_append_left (by simp; omega), List.getElem?_take, if_pos (by omega)]
  · rcases cs p x c h3 h4 with ⟨x0, _, _, q1, q2, q3⟩ | ⟨rfl, rfl, rfl⟩
    · obtain ⟨a1, a2, a3⟩ := h1.own p x0 c q1 q2
      exact ⟨a1, a2, q3.rel hnl hb a3⟩
    · obtain ⟨a1, a2, a3⟩ := h1.own q _ c ho hb
      exact ⟨a1, a2, (a3.take p hu).mono hle rfl⟩
  · rcases cs p x c h3 h5 with ⟨x0, k0, k1, q1, q2, q3⟩ | ⟨rfl, rfl, rfl⟩ <;> rcases cs p' y c h4 h6 with ⟨y0, k0', k1', q1', q2', q3'⟩ | ⟨e1, e2, e3⟩
    · exact h1.inj p p' x0 y0 c q1 q1' q2 q2'
    · subst e3; exact absurd (h1.inj p q x0 o _ q1 ho q2 hb) k0
    · exact absurd (h1.inj p' q y0 _ _ q1' ho q2' hb) k0'
    · omega
  · rcases h.get t with e | e
    · show Rep w I _ _ (agetL l t); rw [e]; exact .any _
    · exact e.rep hnl hb (h2.2 t)
theorem VSV.settle2 {K : Nat} {v v' : AV} {L L0 : Store} {o : AO} (q n : Nat) (hK : K ≤ n) (hq : n ≤ L.length) (ho : L[q]? = some (some o)) (hu : o.upto n = true) (hl : L0.length = n) (hL : MvS q n 0 L L0) (h : Mv q n v v') : VSV K v L v' (L0 ++ [some o]) :=
  VS.settle2 q n rfl hK hq ho hu hl hL (.cons (by simpa [aget, agetL] using h) .nil)
end Go.Proofs.Ytaieiigfheabfaa.Tw
