import Derived.Test.YtpjibokaeefhiaaTwY
import Derived.ChangeArms
import Derived.ChangeSlices
import Derived.WideShapes
/-! What a row's argument reads as: an abstract value, all of whose parts are in range. -/
namespace Go.Proofs.Ytpjibokaeefhiaa.Tw
open Go.RowKit Go.ChangeShapes Go.WideShapes
set_option linter.unusedVariables false
/-- The blocks that there are at the begin. -/
def Ini (w : World) : Nat → Prop := fun b => b < w.heap.size
/-- Cells that are an abstract value's. -/
def CR (w : World) (cs : List Value) (a : AV) : Prop := RepL w (Ini w) [] cs a.cells
/-- Whatever reads as data of type t is one of these values. -/
def Opens {α : Type} (P : Program) (t : TypeId) (v : α → AV) (wf : α → Prop) (n : Nat) : Prop :=
  ∀ (H : Type) (enc : TypeId × Value → H) (w : World) (base : Nat) (spare : Nat → Bool) (held : Bool) (fuel : Nat) (cs : List Value) (x : DataW H × List MemPlace), fuel ≤ n → DataW.trod enc P w base spare held fuel t cs = some x → ∃ a, CR w cs (v a) ∧ wf a
theorem opens_le {α : Type} {P : Program} {t : TypeId} {v : α → AV} {wf : α → Prop} {n m : Nat} (h : Opens P t v wf n) (hm : m ≤ n) : Opens P t v wf m :=
  fun H enc w base spare held fuel cs x hf hx => h H enc w base spare held fuel cs x (Nat.le_trans hf hm) hx
theorem cr_one {w : World} {u : Value} {a : AV} (ha : a.cells = [a]) (h : Rep w (Ini w) [] u a) : CR w [u] a := by
  unfold CR
  rw [ha]
  refine ⟨rfl, fun j x c hx hc => ?_⟩
  cases j with
  | zero => simp at hx hc; subst hx hc; exact h
  | succ j => simp at hx
theorem opens_int {P : Program} {t : TypeId} {k : IntKind} (ht : P.underlying t = some (.int k)) (n : Nat) : Opens P t (fun x => .int k x) (fun x => (Lit.int k x).wf = true) n := by
  intro H enc w base spare held fuel cs x hf hx
  obtain ⟨m, rfl, _, hw⟩ := DataW.trod_int ht hx
  exact ⟨m, cr_one rfl (.int _ _), hw⟩
theorem opens_bool {P : Program} {t : TypeId} (ht : P.underlying t = some .bool) (n : Nat) : Opens P t (fun b => .bool b) (fun _ => True) n := by
  intro H enc w base spare held fuel cs x hf hx
  obtain ⟨m, rfl, _⟩ := DataW.trod_bool ht hx
  exact ⟨m, cr_one rfl (.bool _), trivial⟩
theorem opens_string {P : Program} {t : TypeId} (ht : P.underlying t = some .string) (n : Nat) : Opens P t (fun s => .str s) (fun s => s.size ≤ maxLen) n := by
  intro H enc w base spare held fuel cs x hf hx
  obtain ⟨m, rfl, _, hw⟩ := DataW.trod_string ht hx
  exact ⟨m, cr_one rfl (.str _), hw⟩
/-- A list out of what each place has. -/
theorem list_of {α : Type} (R : Nat → α → Prop) : ∀ n, (∀ i, i < n → ∃ a, R i a) → ∃ l : List α, l.length = n ∧ ∀ i a, l[i]? = some a → R i a
  | 0, _ => ⟨[], rfl, fun i a h => by simp at h⟩
  | n + 1, h => by
    obtain ⟨l, hl, hr⟩ := list_of R n (fun i hi => h i (by omega))
    obtain ⟨a, ha⟩ := h n (by omega)
    refine ⟨l ++ [a], by simp [hl], fun i b hb => ?_⟩
    by_cases hi : i < n
    · rw [List.getElem?_append_left (by omega)] at hb
      exact hr i b hb
    · have hi2 : i < n + 1 := by
        have := (List.getElem?_eq_some_iff.1 hb).1
        simp [hl] at this
        omega
      have : i = n := by omega
      subst this
      rw [← hl] at hb
      simp at hb
      exact hb ▸ ha
theorem cells_of {w : World} {base : Nat} {a : Addr} {n : Nat} {cs : List Value} (h : w.cells? base a n = some cs) : cs.length = n ∧ ∀ i u, cs[i]? = some u → w.cell? (a.add i) = some u := by
  obtain ⟨_, h1, h2⟩ := World.cells?_some h
  refine ⟨h1, fun i u hu => ?_⟩
  rw [h2 i (by have := (List.getElem?_eq_some_iff.1 hu).1; omega)]
  exact hu
theorem cell_plain {w : World} {a : Addr} {n : Nat} {u : Value} (h : w.cell? (a.add n) = some u) : w.cell? ⟨a.block, a.off + n, none⟩ = some u ∧ a.block < w.heap.size ∧ (n = 0 → a.spot = none) := by
  have hb : a.block < w.heap.size := by
    unfold World.cell? at h
    rw [add_block] at h
    split at h
    · rename_i hx; exact (Array.getElem?_eq_some_iff.1 hx).1
    · cases h
  by_cases hn : n = 0
  · subst hn
    have hs : a.spot = none := by
      have : a.add 0 = a := by unfold Addr.add; simp
      rw [this] at h
      unfold World.cell? at h
      split at h
      · split at h
        · cases h
        · rename_i hs; simpa using hs
      · cases h
    rw [add_none hs] at h
    exact ⟨h, hb, fun _ => hs⟩
  · have : a.add n = ⟨a.block, a.off + n, none⟩ := by unfold Addr.add; rw [if_neg hn]
    rw [this] at h
    exact ⟨h, hb, fun e => absurd e hn⟩
theorem add_add' (a : Addr) (n m : Nat) : (a.add n).add m = a.add (n + m) := by
  unfold Addr.add
  by_cases hn : n = 0 <;> by_cases hm : m = 0 <;> simp [hn, hm] <;> omega
theorem opens_slice {α : Type} {P : Program} {t e : TypeId} {v : α → AV} {wf : α → Prop} (ht : P.underlying t = some (.slice e)) {c : Nat} (hc : P.cellsOf e = c) (hpos : 0 < c) {n : Nat} (h : Opens P e v wf n) : Opens P t (fun l : List α => .sl c (l.map v)) (fun l : List α => l.length ≤ maxLen ∧ ∀ x ∈ l, wf x) (n + 1) := by
  intro H enc w base spare held fuel cs x hf hx
  rcases DataW.trod_slice ht hx with ⟨rfl, _⟩ | ⟨a, len, cap, elems, rest, m, rfl, rfl, _, hb, hl, hm, hlen, hel, _, _⟩
  · exact ⟨[], cr_one rfl (Sub.nils c _ _ _ _ .nils), by simp [maxLen], by simp⟩
  · have each : ∀ i, i < len → ∃ b, (∃ cs' : List Value, cs'.length = c ∧ CR w cs' (v b) ∧ ∀ j u, cs'[j]? = some u → w.cell? (a.add (i * c + j)) = some u) ∧ wf b := by
      intro i hi
      have h1 := hel i hi
      obtain ⟨y, hy⟩ : ∃ y, elems[i]? = some y := ⟨elems[i], List.getElem?_eq_getElem (by omega)⟩
      rw [hy, Option.bind_eq_some_iff] at h1
      obtain ⟨c', hc1, hc2⟩ := h1
      obtain ⟨b, hk, hw⟩ := h H enc w base spare held m c' y (by omega) hc2
      obtain ⟨hcl, hcc⟩ := cells_of hc1
      refine ⟨b, ⟨c', by rw [hcl, hc], hk, fun j u hu => ?_⟩, hw⟩
      have h2 := hcc j u hu
      rw [add_add', hc] at h2
      exact h2
    obtain ⟨l, hll, hlr⟩ := list_of _ len each
    have key : ∀ i b, l[i]? = some b → (v b).cells.length = c ∧ ∀ j cc, (v b).cells[j]? = some cc → ∃ u, w.cell? (a.add (i * c + j)) = some u ∧ Rep w (Ini w) [] u cc := by
      intro i b hb
      obtain ⟨⟨cs', q1, q2, q3⟩, _⟩ := hlr i b hb
      refine ⟨q2.1.symm.trans q1, fun j cc hcc => ?_⟩
      have hj := (List.getElem?_eq_some_iff.1 hcc).1
      obtain ⟨u, hu⟩ : ∃ u, cs'[j]? = some u := ⟨_, List.getElem?_eq_getElem (by rw [q2.1]; exact hj)⟩
      exact ⟨u, q3 j u hu, q2.2 j u cc hu hcc⟩
    have hA : l.map v = [] ∨ (some a = some a ∧ a.spot = none ∧ Ini w a.block) := by
      cases hl0 : l with
      | nil => exact .inl rfl
      | cons b bs =>
        obtain ⟨k1, k2⟩ := key 0 b (by rw [hl0]; rfl)
        obtain ⟨u, hu, _⟩ := k2 0 _ (List.getElem?_eq_getElem (by omega))
        obtain ⟨_, r2, r3⟩ := cell_plain hu
        exact .inr ⟨rfl, r3 (by omega), r2⟩
    refine ⟨l, cr_one rfl (.sl (some a) a len cap c (l.map v) (fun i j => (w.cell? ⟨a.block, a.off + (i * c + j), none⟩).getD undef) (by simp [hll]) (by omega) hA (fun e' he => ?_) (fun i j hi hj => ?_) (fun i e' j cc he hcc => ?_)), by rw [hll]; omega, fun b hb => ?_⟩
    · obtain ⟨b, hb, rfl⟩ := List.mem_map.1 he
      obtain ⟨i, hi⟩ := List.getElem?_of_mem hb
      exact (key i b hi).1
    · obtain ⟨b, hb⟩ : ∃ b, l[i]? = some b := ⟨_, List.getElem?_eq_getElem (by simpa using hi)⟩
      obtain ⟨k1, k2⟩ := key i b hb
      obtain ⟨u, hu, _⟩ := k2 j _ (List.getElem?_eq_getElem (by omega))
      rw [(cell_plain hu).1]
      rfl
    · rw [List.getElem?_map, Option.map_eq_some_iff] at he
      obtain ⟨b, hb, rfl⟩ := he
      obtain ⟨u, hu, hr⟩ := (key i b hb).2 j cc hcc
      rw [(cell_plain hu).1]
      exact hr
    · obtain ⟨i, hi⟩ := List.getElem?_of_mem hb
      exact (hlr i b hi).2
/-- The fields from a place on, of a struct whose cells are given from an offset on. -/
def OpensAt {α : Type} (P : Program) (fs : List Field) (off sz : Nat) (v : α → List AV) (wf : α → Prop) (n : Nat) : Prop :=
  ∀ (H : Type) (enc : TypeId × Value → H) (w : World) (base : Nat) (spare : Nat → Bool) (held : Bool) (fuel : Nat) (cs : List Value), fuel ≤ n → cs.length = sz →
    (∀ f ∈ fs, ∃ x, DataW.trod enc P w base spare held fuel f.type ((cs.drop (f.offset - off)).take (P.cellsOf f.type)) = some x) → ∃ a, RepL w (Ini w) [] cs (v a) ∧ wf a
theorem opens_last {α : Type} {P : Program} {f : Field} {off sz : Nat} {v : α → AV} {wf : α → Prop} {n : Nat} (ho : f.offset = off) (hc : P.cellsOf f.type = sz) (h : Opens P f.type v wf n) : OpensAt P [f] off sz (fun a => (v a).cells) wf n := by
  intro H enc w base spare held fuel cs hf hl hx
  obtain ⟨x, hx⟩ := hx f (by simp)
  rw [ho, Nat.sub_self, List.drop_zero, List.take_of_length_le (by omega)] at hx
  exact h H enc w base spare held fuel cs x hf hx
theorem repL_app {w : World} {I : Nat → Prop} {ρ : List Nat} {us vs : List Value} {as bs : List AV} (h : RepL w I ρ us as) (k : RepL w I ρ vs bs) : RepL w I ρ (us ++ vs) (as ++ bs) := by
  refine ⟨by simp [h.1, k.1], fun j u c hu hc => ?_⟩
  by_cases hj : j < us.length
  · rw [List.getElem?_append_left hj] at hu
    rw [List.getElem?_append_left (by rw [← h.1]; exact hj)] at hc
    exact h.2 j u c hu hc
  · rw [List.getElem?_append_right (by omega)] at hu
    rw [List.getElem?_append_right (by rw [← h.1]; omega), ← h.1] at hc
    exact k.2 _ u c hu hc
theorem opens_cons {α β : Type} {P : Program} {f : Field} {fs : List Field} {off c sz : Nat} {v : α → AV} {vs : β → List AV} {wa : α → Prop} {wb : β → Prop} {n : Nat} (ho : f.offset = off) (hc : P.cellsOf f.type = c) (hle : ∀ g ∈ fs, off + c ≤ g.offset) (ha : Opens P f.type v wa n) (hb : OpensAt P fs (off + c) sz vs wb n) : OpensAt P (f :: fs) off (c + sz) (fun x : α × β => (v x.1).cells ++ vs x.2) (fun x => wa x.1 ∧ wb x.2) n := by
  intro H enc w base spare held fuel cs hf hl hx
  obtain ⟨x, hx0⟩ := hx f (by simp)
  rw [ho, Nat.sub_self, List.drop_zero, hc] at hx0
  obtain ⟨p, hp, wp⟩ := ha H enc w base spare held fuel _ x hf hx0
  obtain ⟨q, hq, wq⟩ := hb H enc w base spare held fuel (cs.drop c) hf (by rw [List.length_drop]; omega) (fun g hg => by
    obtain ⟨y, hy⟩ := hx g (by simp [hg])
    refine ⟨y, ?_⟩
    rw [List.drop_drop, show c + (g.offset - (off + c)) = g.offset - off by have := hle g hg; omega]
    exact hy)
  refine ⟨(p, q), ?_, wp, wq⟩
  have := repL_app hp hq
  rwa [List.take_append_drop] at this
theorem opens_struct {α : Type} {P : Program} {t : TypeId} {fs : Array Field} {sz : Nat} {v : α → List AV} {wf : α → Prop} {n : Nat} (ht : P.underlying t = some (.struct fs)) (hc : P.cellsOf t = sz) (h : OpensAt P fs.toList 0 sz v wf n) : Opens P t (fun a => .agg (v a)) wf (n + 1) := by
  intro H enc w base spare held fuel cs x hf hx
  obtain ⟨xs, m, rfl, _, hl, hn, hfs⟩ := DataW.trod_struct ht hx
  refine h H enc w base spare held m cs (by omega) (by rw [hl, hc]) (fun f hf => ?_)
  obtain ⟨i, hi⟩ := List.getElem?_of_mem hf
  have h1 := hfs i f (by simpa using hi)
  have hlt : i < xs.length := by
    have := (List.getElem?_eq_some_iff.1 hi).1
    simp at this
    omega
  rw [List.getElem?_eq_getElem hlt] at h1
  exact ⟨_, h1⟩
theorem opens_map {α β : Type} {P : Program} {t : TypeId} {v : α → AV} {wf : α → Prop} {n : Nat} (u : β → AV) (wg : β → Prop) (g : α → β) (hg : ∀ a, u (g a) = v a) (hw : ∀ a, wf a → wg (g a)) (h : Opens P t v wf n) : Opens P t u wg n := by
  intro H enc w base spare held fuel cs x hf hx
  obtain ⟨a, ha, hwa⟩ := h H enc w base spare held fuel cs x hf hx
  exact ⟨g a, by rw [hg]; exact ha, hw a hwa⟩
/-- An argument, read. -/
theorem opens_arg {α : Type} {P : Program} {t : TypeId} {v : α → AV} {wf : α → Prop} (h : ∀ n, Opens P t v wf n) {H : Type} {enc : TypeId × Value → H} {w : World} {base : Nat} {spare : Nat → Bool} {held : Bool} {u : Value} {d : DataW H} {p : List MemPlace} (hx : DataW.Trod enc P w base spare held t u d p) :
    ∃ a, CR w u.cells.toList (v a) ∧ wf a := by
  obtain ⟨fuel, hf⟩ := hx
  exact h fuel H enc w base spare held fuel _ _ (Nat.le_refl _) hf
theorem cr_rep {w : World} {u : Value} {a : AV} (h : CR w u.cells.toList a) (hu : (∃ cs, u = .agg cs) ↔ ∃ cs, a = .agg cs) : Rep w (Ini w) [] u a := by
  unfold CR at h
  cases a with
  | agg cs =>
    obtain ⟨vs, rfl⟩ := hu.2 ⟨cs, rfl⟩
    have : vs = vs.toList.toArray := by simp
    rw [this]
    exact .agg _ _ h.1 h.2
  | _ =>
    have : u.cells = #[u] := by
      cases u <;> first | rfl | (obtain ⟨cs, hcs⟩ := hu.1 ⟨_, rfl⟩; cases hcs)
    rw [this] at h
    exact h.2 0 u _ rfl rfl
end Go.Proofs.Ytpjibokaeefhiaa.Tw
