import Derived.Test.YtpjibokaeefhiaaTwS
/-! Regions that draw their order, whose operations but the last leave the objects alone; the last waits for all others. -/
namespace Go.Proofs.Ytpjibokaeefhiaa.Tw
open Go.RowKit
set_option linter.unusedVariables false
set_option linter.unusedSimpArgs false
section
variable {P : Program} {r : Option Nat} {K : Nat} {ops : Array Oper} {L : Store} {z : Nat} {Z : AFr → Prop}
/-- What an operation waits for, itself. -/
def deps (ops : Array Oper) (k : Nat) : List Nat :=
  match ops[k]? with
  | some o => (o.after.toList.filter fun e => Region.binds .any e).map (·.on)
  | none => []
def clos (ops : Array Oper) : Nat → List Nat → List Nat
  | 0, S => S
  | k + 1, S => clos ops k (match S.contains k with | true => S ++ deps ops k | false => S)
def tailB (ops : Array Oper) (z : Nat) : Bool := (List.range z).all fun i => (clos ops z (deps ops z)).contains i
/-- What is listed has what it waits for listed. -/
def Closed (ops : Array Oper) (listed : Array Bool) : Prop := ∀ (k i : Nat), listed.getD k false = true → i ∈ deps ops k → listed.getD i false = true
theorem clos_listed {listed : Array Bool} (hc : Closed ops listed) : ∀ (k : Nat) (S : List Nat), (∀ i ∈ S, listed.getD i false = true) → ∀ i ∈ clos ops k S, listed.getD i false = true
  | 0, S, h, i, hi => h i hi
  | k + 1, S, h, i, hi => by
    simp only [clos] at hi
    split at hi
    · rename_i hk
      refine clos_listed hc k _ (fun x hx => ?_) i hi
      rcases List.mem_append.1 hx with hx | hx
      · exact h x hx
      · exact hc k x (h k (by simpa using hk)) hx
    · exact clos_listed hc k S h i hi
theorem deps_ready {listed : Array Bool} {k : Nat} (h : k ∈ Region.ready .any ops listed) : ∀ i ∈ deps ops k, listed.getD i false = true := by
  obtain ⟨_, o, ho, hall⟩ := mem_ready.1 h
  intro i hi
  unfold deps at hi
  rw [ho] at hi
  simp only [List.mem_map, List.mem_filter] at hi
  obtain ⟨e, ⟨he, hb⟩, rfl⟩ := hi
  exact hall e (by simpa using he) hb
theorem tail_last {listed : Array Bool} (hB : tailB ops z = true) (hc : Closed ops listed) (h : z ∈ Region.ready .any ops listed) (i : Nat) (hi : i < z) : listed.getD i false = true := by
  have := List.all_eq_true.1 hB i (by simpa using hi)
  exact clos_listed hc z _ (deps_ready h) i (by simpa using this)
theorem Closed.set {listed : Array Bool} (hc : Closed ops listed) {k : Nat} (h : k ∈ Region.ready .any ops listed) : Closed ops (listed.setIfInBounds k true) := by
  intro j i hj hi
  have mono : ∀ i, listed.getD i false = true → (listed.setIfInBounds k true).getD i false = true := fun i h => by
    by_cases e : k = i
    · subst e
      rcases Nat.lt_or_ge k listed.size with h' | h'
      · simp [h']
      · simp [Array.getElem?_eq_none h'] at h
    · rw [getD_set_ne false e]; exact h
  by_cases e : k = j
  · subst e; exact mono i (deps_ready h i hi)
  · rw [getD_set_ne false e] at hj; exact mono i (hc j i hj hi)
/-- Whatever order is picked; the operation at place z is the last. -/
def anyT (P : Program) (r : Option Nat) (K : Nat) (ops : Array Oper) (L : Store) (z : Nat) (Z : AFr → Prop) : Nat → Array Bool → AFr → Prop
  | 0, _, _ => False
  | fuel + 1, listed, fr => Region.ready .any ops listed ≠ [] ∧ ∀ i ∈ Region.ready .any ops listed,
    (i = z ∧ Region.ready .any ops (listed.setIfInBounds z true) = [] ∧ Z fr) ∨ (i ≠ z ∧ ∃ o v, ops[i]? = some o ∧ AY P r K ops L o fr v ∧ anyT P r K ops L z Z fuel (listed.setIfInBounds i true) (aputf o.dst v fr))
theorem anyT.congr (hZ : ∀ fr fr', FEq fr fr' → Z fr → Z fr') : ∀ (fuel : Nat) (listed : Array Bool) (fr fr' : AFr), FEq fr fr' → anyT P r K ops L z Z fuel listed fr → anyT P r K ops L z Z fuel listed fr'
  | 0, _, _, _, _, h => h
  | fuel + 1, listed, fr, fr', e, h => ⟨h.1, fun i hi => (h.2 i hi).imp (fun ⟨a, b, c⟩ => ⟨a, b, hZ _ _ e c⟩) fun ⟨a, o, v, ho, hy, hn⟩ => ⟨a, o, v, ho, hy.congr e.1 (fun t _ => e.2 t), anyT.congr hZ fuel _ _ _ (e.put o.dst v) hn⟩⟩
theorem anyT_first (hZ : ∀ fr fr', FEq fr fr' → Z fr → Z fr') (hB : tailB ops z = true) {i : Nat} {oi : Oper} {v : AV} (hi : ops[i]? = some oi) (hiz : i < z) :
    ∀ (fuel : Nat) (listed : Array Bool) (fr : AFr), Closed ops listed →
      (∀ (j : Nat) (oj : Oper), ops[j]? = some oj → j ≠ i → listed.getD j true = false → (∀ e ∈ oj.after, Region.binds .any e = true → e.on ≠ i) → oi.apart ops oj = true) →
      i ∈ Region.ready .any ops listed → AY P r K ops L oi fr v →
      anyT P r K ops L z Z fuel (listed.setIfInBounds i true) (aputf oi.dst v fr) → anyT P r K ops L z Z (fuel + 1) listed fr := by
  intro fuel
  induction fuel with
  | zero => intro listed fr _ _ _ _ H; exact H.elim
  | succ fuel ih =>
    intro listed fr hcl hfree hr hy H
    refine ⟨fun h => (by rw [h] at hr; cases hr), fun j hj => ?_⟩
    have hun := (mem_ready.1 hr).1
    by_cases hji : j = i
    · subst hji; exact .inr ⟨by omega, oi, v, hi, hy, H⟩
    · by_cases hjz : j = z
      · subst hjz
        have := tail_last hB hcl hj i hiz
        rcases Nat.lt_or_ge i listed.size with h' | h'
        · simp [h'] at this hun; rw [this] at hun; cases hun
        · simp [Array.getElem?_eq_none h'] at hun
      · refine .inr ⟨hjz, ?_⟩
        obtain h1 | ⟨_, oj', u, hoj', hyj, h1⟩ := H.2 j (ready_mono hj hji)
        · exact absurd h1.1 hjz
        obtain ⟨hjun, oj, hoj, hall⟩ := mem_ready.1 hj
        rw [hoj] at hoj'
        have eoj := Option.some.inj hoj'
        subst eoj
        have hnot : ∀ e ∈ (oj : Oper).after, Region.binds .any e = true → e.on ≠ i := fun e he hb heq => by
          have h1 := hall e he hb
          rw [heq] at h1
          rcases Nat.lt_or_ge i listed.size with h' | h'
          · simp [h'] at hun h1; rw [hun] at h1; cases h1
          · simp [Array.getElem?_eq_none h'] at h1
        obtain ⟨q1, q2, q3⟩ := Oper.apart_spec (hfree j oj hoj hji hjun hnot)
        have hfree' : ∀ (k : Nat) (ok : Oper), ops[k]? = some ok → k ≠ i → (listed.setIfInBounds j true).getD k true = false →
            (∀ e ∈ ok.after, Region.binds .any e = true → e.on ≠ i) → oi.apart ops ok = true := fun k ok hk hki hun hno => by
          refine hfree k ok hk hki ?_ hno
          by_cases hjk : j = k
          · subst hjk; exact hjun
          · rw [getD_set_ne true hjk] at hun; exact hun
        refine ⟨oj, u, hoj, hyj.congr (aputf_n ..) (fun t ht => ?_), ih (listed.setIfInBounds j true) _ (hcl.set hj) hfree' (ready_mono hr (Ne.symm hji)) (hy.congr (aputf_n ..).symm (fun t ht => ?_)) ?_⟩
        · rw [aget_put, if_neg]
          rintro ⟨hd, _⟩
          exact q1 t hd ht
        · rw [aget_put, if_neg]
          rintro ⟨hd, _⟩
          exact q3 t hd ht
        · rw [Array.setIfInBounds_comm _ _ (Ne.symm hji)] at h1
          exact anyT.congr hZ _ _ _ _ (put_comm oi.dst oj.dst v u fr q2) h1
theorem anyT_lex (hZ : ∀ fr fr', FEq fr fr' → Z fr → Z fr') (hB : tailB ops z = true) (hz : z + 1 = ops.size) : ∀ (l : List Oper) (k : Nat) (listed : Array Bool) (fr : AFr), k + l.length = z → (∀ j, j < l.length → l[j]? = ops[k + j]?) → Closed ops listed → (∀ i, i < k → listed.getD i true = true) →
    Region.lexFrom .any ops (l.length + 1) k listed = true → lexQ P r K ops L Z l fr → anyT P r K ops L z Z (l.length + 1) listed fr
  | [], k, listed, fr, hk, _, _, hlt, hL, h => by
    simp only [List.length_nil, Region.lexFrom, Bool.and_eq_true] at hL
    obtain ⟨⟨hr, _⟩, he⟩ := hL
    simp only [List.length_nil, Nat.add_zero] at hk
    subst hk
    refine ⟨fun h0 => by rw [h0] at hr; simp at hr, fun i hi => .inl ⟨?_, by simpa using he, h⟩⟩
    obtain ⟨h1, o, ho, _⟩ := mem_ready.1 hi
    have hlt' := (Array.getElem?_eq_some_iff.1 ho).1
    rcases Nat.lt_trichotomy i k with h2 | h2 | h2
    · rw [hlt i h2] at h1; cases h1
    · exact h2
    · omega
  | o :: l, k, listed, fr, hk, hl, hcl, hlt, hL, h => by
    have h0 : ops[k]? = some o := by simpa using (hl 0 (by simp)).symm
    rw [List.length_cons, Region.lexFrom] at hL
    simp only [Bool.and_eq_true] at hL
    obtain ⟨⟨hr, hf⟩, hL'⟩ := hL
    obtain ⟨v, hy, hK⟩ := h
    simp only [List.length_cons] at hk
    have hr' : k ∈ Region.ready .any ops listed := by simpa using hr
    refine anyT_first hZ hB h0 (by omega) (l.length + 1) listed fr hcl (Region.free_spec h0 hf) hr' hy
      (anyT_lex hZ hB hz l (k + 1) _ _ (by omega) (fun j hj => by have := hl (j + 1) (by simpa using hj); simpa [Nat.add_assoc, Nat.add_comm 1 j] using this) (hcl.set hr') (fun i hi => ?_) hL' hK)
    by_cases e : k = i
    · subst e
      rcases Nat.lt_or_ge k listed.size with h' | h'
      · simp [h']
      · simp [Array.getElem?_eq_none h']
    · rw [getD_set_ne true e]; exact hlt i (by omega)
theorem anyT_sound {Q' : Exit → Act → World → Prop} {w0 : World} {I0 : Nat → Prop} {ρ : List Nat} {a0 : Act} {oz : Oper} (hoz : ops[z]? = some oz) (hgz : oz.guard = none) (S : Nat) (hd0 : DefOk S w0 I0 a0.defers)
    (hZ : ∀ fr a w I (nx : Act → World → Prop), Z fr → Rel w I ρ L → RepF w I ρ a.tmps fr → Le w0 I0 ρ w I ρ → Ev K w0 I0 ρ L w I ρ L → a.tmps.size = a0.tmps.size → a.defers = a0.defers → (∀ a w, Q' .normal a w → nx a w) → oz.wpIn (Fen r) 0 P a w nx Q') :
    ∀ (fuel : Nat) (listed : Array Bool) (fr : AFr) (a : Act) (w : World) (I : Nat → Prop), Rel w I ρ L → RepF w I ρ a.tmps fr → Le w0 I0 ρ w I ρ → Ev K w0 I0 ρ L w I ρ L → a.tmps.size = a0.tmps.size → a.defers = a0.defers →
      anyT P r K ops L z Z fuel listed fr → wpAnyIn (Fen r) 0 P .any ops Q' fuel listed a w
  | 0, listed, fr, a, w, I, h1, h2, h3, h4, h5, h6, h => h.elim
  | fuel + 1, listed, fr, a, w, I, h1, h2, h3, h4, h5, h6, h => by
    refine ⟨fun e => absurd e h.1, fun i hi => ?_⟩
    rcases h.2 i hi with ⟨rfl, he, hz⟩ | ⟨_, o, v, ho, hy, hn⟩
    · unfold wpOpIn
      simp only [hoz]
      rw [if_pos (by unfold Region.wanted; simp [hgz])]
      refine hZ fr a w I _ hz h1 h2 h3 h4 h5 h6 (fun a w hq => ?_)
      cases fuel with
      | zero => exact ⟨he, hq⟩
      | succ fuel => exact ⟨fun _ => hq, fun j hj => by rw [he] at hj; cases hj⟩
    · unfold wpOpIn
      simp only [ho]
      refine hy S a w I ρ _ Q' h1 ⟨h2.1, fun t => by rw [aget_frOn]; split; exact h2.2 t; exact .any _⟩ (h6 ▸ hd0.mono h3 h4.size) (fun u w' I' r1 r2 r3 r4 => ?_)
      obtain ⟨p1, p2⟩ := put_repF (h2.mono r3) r2 o.dst
      exact anyT_sound hoz hgz S hd0 hZ fuel _ _ _ w' I' r1 p1 (h3.trans r3) (h4.trans r4) (p2.trans h5) ((by cases o.dst <;> rfl : (a.put o.dst u).defers = a.defers).trans h6) hn
theorem lexQ.mono {Q Q' : AFr → Prop} (hQ : ∀ fr, Q fr → Q' fr) : ∀ (l : List Oper) (fr : AFr), lexQ P r K ops L Q l fr → lexQ P r K ops L Q' l fr
  | [], fr, h => hQ fr h
  | o :: l, fr, ⟨v, hy, h⟩ => ⟨v, hy, lexQ.mono hQ l _ h⟩
/-- The last operation, as it stands in a frame that says the same. -/
def lastT (P : Program) (r : Option Nat) (K : Nat) (L : Store) (o : Oper) (Q : AEx → AFr → Store → Prop) (fr : AFr) : Prop :=
  ∃ f2, FEq fr f2 ∧ OpTw P r K o (fun av L' => Q .normal (aputf o.dst av f2) L') Q f2 L
theorem Tw.drawT {id : Nat} {Q : AEx → AFr → Store → Prop} {fr : AFr} {oz : Oper} (hm : P.follows .mixedOrders = true) (hB : Region.lexB .any ops = true) (hT : tailB ops z = true) (hz : z + 1 = ops.size) (hoz : ops[z]? = some oz) (hgz : oz.guard = none)
    (h : lexQ P r K ops L (lastT P r K L oz Q) (ops.toList.take z) fr) : Tw P r K (.region id ops true) Q fr L := by
  intro S a w I ρ h1 h2 h3
  simp only [Region.lexB, Bool.and_eq_true] at hB
  have hlen : (ops.toList.take z).length = z := by simp; omega
  have hcl : Closed ops (Array.replicate ops.size false) := fun k i hk => by
    exfalso
    rcases Nat.lt_or_ge k ops.size with h' | h'
    · simp [h'] at hk
    · simp [h'] at hk
  have hany := anyT_lex (P := P) (r := r) (K := K) (L := L) (Z := lastT P r K L oz Q) (fun fr fr' e ⟨f2, e2, q⟩ => ⟨f2, e.symm.trans e2, q⟩) hT hz (ops.toList.take z) 0 (Array.replicate ops.size false) fr (by omega)
    (fun j hj => by rw [hlen] at hj; simp [hj]) hcl (fun i hi => by omega) (by rw [hlen, hz]; exact hB.2) h
  refine wpIn_region_any hm ?_
  obtain ⟨d1, d2, d3⟩ := drewN_rel (K := K) (w := w) (w' := { w with drawn := w.drawn + 1 }) rfl rfl rfl rfl h1
  have := anyT_sound (P := P) (r := r) (K := K) (ops := ops) (L := L) (w0 := w) (I0 := I) (a0 := a) (Q' := Post S K Q a w I ρ L) hoz hgz S h3 (fun fr' a' w' I' nx ⟨f2, e2, q⟩ r1 r2 r3 r4 r5 r6 hnx => by
      have hop := q S a' w' I' ρ r1 (e2.rep r2) (by rw [r6]; exact h3.mono r3 r4.size) nx (fun v av L2 w2 I2 ρ2 hN s1 s2 s3 s4 => by
        obtain ⟨hp1, hp2⟩ := put_repF ((e2.rep r2).mono s3) s2 oz.dst
        refine hnx _ _ ⟨.normal, _, L2, I2, ρ2, trivial, hN, s1, hp1, ?_, r4.trans s4, hp2.trans r5⟩
        have : (a'.put oz.dst v).defers = a.defers := (by cases oz.dst <;> rfl : (a'.put oz.dst v).defers = a'.defers).trans r6
        rw [this]
        exact h3.mono (r3.trans s3) (Nat.le_trans r4.size s4.size))
      exact oper_post (fun e a1 w1 hp => Post.behind r4 r5 hp) hop)
    (ops.toList.take z).length.succ (Array.replicate ops.size false) fr a _ I d1 (h2.mono d2) d2 d3 rfl rfl hany
  simpa [hlen, hz] using this
/-- A region that draws its order, and whose operations but the last are quiet. -/
theorem TW.drawT {A : Ar} {T : TyOps} {P : Program} {r : Option Nat} {K z : Nat} {id : Nat} {ops : Array Oper} {Q : AEx → AFr → Store → Prop} {fr : AFr} {L : Store} {oz : Oper} (hT : T = tyOf P) (hm : P.follows .mixedOrders = true) (hB : Region.lexB .any ops = true) (hz : z + 1 = ops.size) (hTl : tailB ops z = true) (hoz : ops[z]? = some oz) (hgz : oz.guard = none) (hK : Nat.ble K L.length = true)
    (h : eqops A T P ops L (fun fr' => erop A T P K oz.op fr' L (fun av L' => Q .normal (aputf oz.dst av fr') L') Q) (ops.toList.take z) fr) : TW P r K (.region id ops true) Q fr L := by
  subst hT
  refine ⟨Tw.drawT hm hB hTl hz hoz hgz ?_⟩
  have := eqops_ok (r := r) (K := K) (by simpa using hK) _ _ h
  exact lexQ.mono (fun fr ⟨f2, e, q⟩ => ⟨f2, e, rop_ok (erop_ok q)⟩) _ _ this
end
end Go.Proofs.Ytpjibokaeefhiaa.Tw
