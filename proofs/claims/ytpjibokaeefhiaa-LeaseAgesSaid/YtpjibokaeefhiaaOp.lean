import Derived.Test.YtpjibokaeefhiaaOo
/-! A map's entries: those stay of which so tells. -/
namespace Go.Proofs.Ytpjibokaeefhiaa
open Go.Proofs.Ytpjibokaeefhiaa.Tw
theorem TW.loopQp {σ : Type} (A : Ar) {T : TyOps} {P : Program} {r : Option Nat} {K : Nat} {c : Code} {Q : AEx → AFr → Store → Prop} {fr : AFr} {L : Store} (π : List Nat) (hT : T = tyOf P) (S : LI σ) (n : Nat) (hn : fr.n = n) (s0 : σ) (hi : S.inv s0)
    (hv : eVS true K π fr L (S.fr s0) (S.st s0) True)
    (round : ∀ s, S.inv s → ∀ (l1 : List (Nat × AV)) (L1 : Store), l1 = S.fr s → L1 = S.st s → ewp A T P r K c (thenQ (LM S K n s) Q) ⟨n, l1⟩ L1) : TW P r K (.loop c) Q fr L := by
  subst hT
  refine ⟨Tw.loop (fun m fr1 L1 => ∃ s, S.inv s ∧ m = S.m s ∧ fr1 = ⟨n, S.fr s⟩ ∧ L1 = S.st s) (n0 := S.m s0) (hn ▸ (eVS_ok hv).1) ⟨s0, hi, rfl, rfl, rfl⟩ ?_⟩
  rintro m fr1 L1 ⟨s, hs, rfl, rfl, rfl⟩
  refine (Tw.of_ewp _ _ _ _ (round s hs _ _ rfl rfl)).mono fun e fr2 L2 hq => ?_
  cases e <;> first | exact hq | skip
  obtain ⟨s', h1, h2, h3⟩ := hq
  exact ⟨S.m s', _, _, h2, h3, s', h1, rfl, rfl, rfl⟩
abbrev Ent3 := Nat × Int × Int
def ent3 (x : Ent3) : Nat × AV × AV := (x.1, .int .i64 x.2.1, .int .i64 x.2.2)
/-- Entries, not reckoned out. -/
structure EmE where
  l : List Ent3 → List (Nat × AV × AV)
  ok : ∀ m, l m = m.map ent3
def emE0 : EmE := ⟨_, fun _ => rfl⟩
theorem EmE.pur (G : EmE) (m : List Ent3) : PurM (G.l m) := ⟨fun x hx => by
  rw [G.ok] at hx
  obtain ⟨y, _, rfl⟩ := List.mem_map.1 hx
  exact ⟨rfl, rfl⟩⟩
theorem EmE.get (G : EmE) {m : List Ent3} {j : Nat} {x : Nat × AV × AV} (h : (G.l m)[j]? = some x) : ∃ y, m[j]? = some y ∧ x = ent3 y := by
  rw [G.ok, List.getElem?_map, Option.map_eq_some_iff] at h
  obtain ⟨y, hy, rfl⟩ := h
  exact ⟨y, hy, rfl⟩
/-- The entries that are left when those seen were asked. -/
def leftE (so : Int → Bool) (m : List Ent3) (seen : List Nat) : List Ent3 := m.filter fun x => !seen.contains x.1 || so x.2.1
theorem nodup_len : ∀ {l l' : List Nat}, l.Nodup → (∀ b ∈ l, b ∈ l') → l.length ≤ l'.length
  | [], _, _, _ => Nat.zero_le _
  | a :: l, l', h, hs => by
    have ha : a ∈ l' := hs a (List.mem_cons_self ..)
    have h1 := List.nodup_cons.1 h
    have := nodup_len (l' := l'.erase a) h1.2 (fun b hb => (List.mem_erase_of_ne (show b ≠ a from fun e => h1.1 (by rw [← e]; exact hb))).2 (hs b (List.mem_cons_of_mem _ hb)))
    rw [List.length_erase_of_mem ha] at this
    have hp := List.length_pos_of_mem ha
    simp only [List.length_cons]
    omega
theorem born_at {m : List Ent3} {i j : Nat} {x y : Ent3} (h : (m.map (·.1)).Nodup) (hx : m[i]? = some x) (hy : m[j]? = some y) (e : x.1 = y.1) : i = j := by
  have h1 : (m.map (·.1))[i]? = some x.1 := by simp [hx]
  have h2 : (m.map (·.1))[j]? = some x.1 := by simp [hy, e]
  exact (List.getElem?_inj (List.getElem?_eq_some_iff.1 h1).1 h).1 (h1.trans h2.symm)
theorem del_filter {so : Int → Bool} {b : Nat} {k v : Int} (hso : so k = false) : ∀ (m : List Ent3) (j : Nat), (m.map (·.1)).Nodup → (m.map (·.2.1)).Nodup → m[j]? = some (b, k, v) → delA (.int .i64 k) (m.map ent3) = (m.filter fun x => !(x.1 == b) || so x.2.1).map ent3
  | [], j, _, _, h => by simp at h
  | x :: m, 0, hb, hk, h => by
    simp at h
    subst h
    have h1 := List.nodup_cons.1 hb
    have hkeep : (m.filter fun x => !(x.1 == b) || so x.2.1) = m := List.filter_eq_self.2 fun y hy => by
      have : y.1 ≠ b := fun e => h1.1 (List.mem_map.2 ⟨y, hy, e⟩)
      simp [this]
    rw [List.filter_cons_of_neg (by simp [hso]), hkeep]
    simp [delA, idxA, ent3, keyEq]
  | x :: m, j + 1, hb, hk, h => by
    have h' : m[j]? = some (b, k, v) := by simpa using h
    have h1 := List.nodup_cons.1 hb
    have h2 := List.nodup_cons.1 hk
    have hmem := List.mem_of_getElem? h'
    have hxb : x.1 ≠ b := fun e => h1.1 (List.mem_map.2 ⟨_, hmem, e.symm⟩)
    have hxk : k ≠ x.2.1 := fun e => h2.1 (List.mem_map.2 ⟨_, hmem, e⟩)
    have ih := del_filter hso m j h1.2 h2.2 h'
    rw [List.filter_cons_of_pos (by simp [hxb]), List.map_cons, List.map_cons, ← ih]
    unfold delA
    rw [idxA, if_neg (by simp [ent3, keyEq, hxk])]
    cases idxA (.int .i64 k) (m.map ent3) <;> simp
set_option maxHeartbeats 1000000 in
theorem forget69 (A : Ar) (G : EmE) {P : Program} (hP : P = Try.prog) (g : FuncId) (caps : List AV) (so : Int → Bool) (hc : purL caps = true) (he : Ent P g) (hg : ∀ i, TPure P g (.int .i64 i :: caps) (.bool (so i)))
    (c : Nat) (m : List Ent3) (hb : (m.map (·.1)).Nodup) (hlt : ∀ x ∈ m, x.1 < c) (hk : (m.map (·.2.1)).Nodup) :
    TC1 P 69 [.agg [.map 0], .func (.func g) [] caps] [some (.mp c (G.l m))] (.tup []) [some (.mp c (G.l (m.filter fun x => so x.2.1)))] := by
  refine TC1.of A _ _ T0 (T0_ok hP) (hP ▸ Try.func69) rfl _ rfl (by simp) ?_
  obtain ⟨r, hr⟩ : ∃ r, r = m.filter fun x => so x.2.1 := ⟨_, rfl⟩
  rw [← hr]
  cbv
  ((try cbv) <;> (repeat ((with_reducible refine EW.of ?_); cbv)))
  obtain ⟨S, hS⟩ : ∃ S : LI (List Nat × List Ent3), S = ⟨fun _ => [(7, .ref 2 0 0 0), (2, .ref 1 1 0 0), (1, .func (.func g) [] caps)], fun x => [some (.mp c (G.l x.2)), some (.box 1 (.agg [.map 0])), some (.it 0 c x.1 c)],
      fun x => x.2 = leftE so m x.1 ∧ x.1.Nodup ∧ ∀ b ∈ x.1, b ∈ m.map (·.1), fun x => m.length - x.1.length⟩ := ⟨_, rfl⟩
  refine TW.loopQp A [0, 1, 2] (T0_ok hP) S _ rfl ([], m) ?_ ?_ ?_
  · rw [hS]; exact ⟨(List.filter_eq_self.2 fun x _ => rfl).symm, List.nodup_nil, fun b hb => by cases hb⟩
  · rw [hS]
    cbv
    (repeat (first | exact trivial | refine And.intro (Emb.Pur _ _) ?_ | refine And.intro rfl ?_ | refine And.intro (Pur.mk rfl) ?_ | refine And.intro (Pur.mk (by assumption)) ?_))
    exact ⟨G.pur _, ⟨rfl⟩, ⟨hc⟩, trivial⟩
  rintro ⟨seen, m1⟩ hinv l1 L1 e1 e2
  rw [hS] at hinv e1 e2
  obtain ⟨hm1, hnd, hin⟩ := hinv
  dsimp only at hm1 hnd hin e1 e2
  subst e1 e2
  cbv
  ((try cbv) <;> (repeat ((with_reducible refine EW.of ?_); cbv)))
  have hsub : ∀ x ∈ m1, x ∈ m := fun x hx => by rw [hm1] at hx; exact (List.mem_filter.1 hx).1
  refine And.intro (Nat.le_refl _) (And.intro ?_ (And.intro ?_ ?_))
  · intro x hx
    rw [G.ok] at hx
    obtain ⟨y, hy, rfl⟩ := List.mem_map.1 hx
    exact hlt y (hsub y hy)
  · intro j x hx hns
    obtain ⟨⟨b, k, v⟩, hy, rfl⟩ := G.get hx
    have hgk := hg k
    obtain ⟨seen1, hs1⟩ : ∃ s, s = seen ++ [b] := ⟨_, rfl⟩
    rw [show seen ++ [(ent3 (b, k, v)).1] = seen1 from hs1.symm]
    replace hns : b ∉ seen := hns
    have hms : m1.Sublist m := by rw [hm1]; exact List.filter_sublist
    have hb1 : (m1.map (·.1)).Nodup := hb.sublist (hms.map _)
    have hk1 : (m1.map (·.2.1)).Nodup := hk.sublist (hms.map _)
    have hbm : b ∈ m.map (·.1) := List.mem_map.2 ⟨_, hsub _ (List.mem_of_getElem? hy), rfl⟩
    have hnd1 : seen1.Nodup := by
      rw [hs1, List.nodup_append]
      exact ⟨hnd, by simp, fun a ha b' hb' e => by simp at hb'; subst hb' e; exact hns ha⟩
    have hin1 : ∀ b' ∈ seen1, b' ∈ m.map (·.1) := fun b' hb' => by
      rw [hs1, List.mem_append] at hb'
      rcases hb' with h | h
      · exact hin b' h
      · simp at h; subst h; exact hbm
    have hlen : m.length - seen1.length < m.length - seen.length := by
      have h1 : seen1.length ≤ (m.map (·.1)).length := nodup_len hnd1 hin1
      rw [hs1] at h1 ⊢
      simp at h1 ⊢
      omega
    have hnext : leftE so m seen1 = m1.filter fun x => !(x.1 == b) || so x.2.1 := by
      rw [hm1, hs1]
      unfold leftE
      rw [List.filter_filter]
      refine List.filter_congr fun x hx => ?_
      by_cases h1 : x.1 ∈ seen <;> by_cases h2 : x.1 = b <;> cases so x.2.1 <;> simp [h1, h2] <;> simp_all
    cbv
    ((try cbv) <;> (repeat ((with_reducible refine EW.of ?_); cbv)))
    refine ⟨b, .int .i64 k, .int .i64 v, by rw [hs1]; simp, ⟨j, hx, ?_⟩, ?_⟩
    · intro i x hxi hxb
      obtain ⟨y, hyi, rfl⟩ := G.get hxi
      exact born_at hb1 hyi hy hxb
    cbv
    ((try cbv) <;> (repeat ((with_reducible refine EW.of ?_); cbv)))
    refine ⟨he, ?_⟩
    refine TC.pure hgk (by simpa [purL, AV.pur] using hc) ?_
    cases hso : so k with
    | true =>
      cbv
      ((try cbv) <;> (repeat ((with_reducible refine EW.of ?_); cbv)))
      refine LM.ofQp [0, 1, 2] (seen1, m1) rfl ?_ ?_ ?_
      · rw [hS]
        refine ⟨?_, hnd1, hin1⟩
        show m1 = leftE so m seen1
        rw [hnext]
        refine (List.filter_eq_self.2 fun x hx => ?_).symm
        obtain ⟨i, hi⟩ := List.getElem?_of_mem hx
        by_cases e : x.1 = b
        · obtain rfl : i = j := born_at hb1 hi hy e
          obtain rfl : x = (b, k, v) := Option.some.inj (hi.symm.trans hy)
          simp [hso]
        · simp [e]
      · rw [hS]; exact hlen
      · rw [hS]; cbv; (repeat (first | exact trivial | refine And.intro (Emb.Pur _ _) ?_ | refine And.intro rfl ?_ | refine And.intro (Pur.mk rfl) ?_ | refine And.intro (Pur.mk (by assumption)) ?_)); exact ⟨G.pur _, ⟨rfl⟩, ⟨hc⟩, trivial⟩
    | false =>
      cbv
      ((try cbv) <;> (repeat ((with_reducible refine EW.of ?_); cbv)))
      have hdel : delA (.int .i64 k) (G.l m1) = G.l (leftE so m seen1) := by
        rw [hnext, G.ok, G.ok]
        exact del_filter hso m1 j hb1 hk1 hy
      refine And.intro ⟨rfl, fun x hx => ?_⟩ ⟨_, hdel, ?_⟩
      · replace hx : x ∈ G.l m1 := hx
        rw [G.ok] at hx
        obtain ⟨y, _, rfl⟩ := List.mem_map.1 hx
        rfl
      obtain ⟨m2, hm2⟩ : ∃ m2, m2 = leftE so m seen1 := ⟨_, rfl⟩
      rw [← hm2]
      cbv
      ((try cbv) <;> (repeat ((with_reducible refine EW.of ?_); cbv)))
      refine LM.ofQp [0, 1, 2] (seen1, m2) rfl ?_ ?_ ?_
      · rw [hS]; exact ⟨hm2, hnd1, hin1⟩
      · rw [hS]; exact hlen
      · rw [hS]; cbv; (repeat (first | exact trivial | refine And.intro (Emb.Pur _ _) ?_ | refine And.intro rfl ?_ | refine And.intro (Pur.mk rfl) ?_ | refine And.intro (Pur.mk (by assumption)) ?_)); exact ⟨G.pur _, ⟨rfl⟩, ⟨hc⟩, trivial⟩
  · intro hall
    have hfin : m1 = r := by
      rw [hr, hm1]
      unfold leftE
      refine List.filter_congr fun x hx => ?_
      by_cases h1 : x.1 ∈ seen
      · simp [h1]
      · exfalso
        refine h1 (hall (ent3 x) ?_)
        rw [G.ok]
        refine List.mem_map.2 ⟨x, ?_, rfl⟩
        rw [hm1]
        exact List.mem_filter.2 ⟨hx, by simp [h1]⟩
    clear hr
    subst hfin
    cbv
    ((try cbv) <;> (repeat ((with_reducible refine EW.of ?_); cbv)))
    refine R1.of ?_
    cbv
    (repeat (first | exact trivial | refine And.intro (Emb.Pur _ _) ?_ | refine And.intro rfl ?_ | refine And.intro (Pur.mk rfl) ?_ | refine And.intro (Pur.mk (by assumption)) ?_))
    exact ⟨G.pur _, trivial⟩
end Go.Proofs.Ytpjibokaeefhiaa
