import Derived.Test.YtpjibokaeefhiaaTwX
/-! More handles. -/
namespace Go.Proofs.Ytpjibokaeefhiaa.Tw
open Go.RowKit
set_option linter.unusedVariables false
mutual
theorem em_mono {fz : Bool} {π : List Nat} {L : Store} {K K' : Prop} (hK : K → K') : ∀ (c a : AV), em fz π L c a K → em fz π L c a K'
  | .any, a, h => hK h
  | .int k n, a, h => by
    simp only [em] at h ⊢
    split at h <;> first | exact h.elim | exact chk_iff.2 ⟨(chk_iff.1 h).1, (chk_iff.1 h).2.1, hK (chk_iff.1 h).2.2⟩
  | .bool b, a, h => by
    simp only [em] at h ⊢
    split at h <;> first | exact h.elim | exact ⟨h.1, hK h.2⟩
  | .str s, a, h => by
    simp only [em] at h ⊢
    split at h <;> first | exact h.elim | exact ⟨h.1, hK h.2⟩
  | .nil, a, h => by
    simp only [em] at h ⊢
    split at h <;> first | exact h.elim | exact hK h
  | .nils, a, h => by
    simp only [em] at h ⊢
    split at h <;> first | exact h.elim | exact hK h
  | .nilf, a, h => by
    simp only [em] at h ⊢
    split at h <;> first | exact h.elim | exact hK h
  | .raw x, a, h => by
    simp only [em] at h ⊢
    split at h <;> first | exact h.elim | exact ⟨h.1, hK h.2⟩
  | .ref p wd i f, a, h => by
    simp only [em] at h ⊢
    split at h
    · split at h <;> first | exact h.elim | exact chk_iff.2 ⟨(chk_iff.1 h).1, (chk_iff.1 h).2.1, hK (chk_iff.1 h).2.2⟩
    · exact h.elim
  | .row p wd off n, a, h => by
    simp only [em] at h ⊢
    split at h
    · split at h <;> first | exact h.elim | exact chk_iff.2 ⟨(chk_iff.1 h).1, (chk_iff.1 h).2.1, (chk_iff.1 h).2.2.1, hK (chk_iff.1 h).2.2.2⟩
    · exact h.elim
  | .map p, a, h => by
    simp only [em] at h ⊢
    split at h
    · split at h <;> first | exact h.elim | exact chk_iff.2 ⟨(chk_iff.1 h).1, hK (chk_iff.1 h).2⟩
    · exact h.elim
  | .yield p, a, h => by
    simp only [em] at h ⊢
    split at h
    · split at h <;> first | exact h.elim | exact chk_iff.2 ⟨(chk_iff.1 h).1, hK (chk_iff.1 h).2⟩
    · exact h.elim
  | .sl wd es, a, h => by
    simp only [em] at h ⊢
    split at h
    · exact ⟨h.1, hK h.2⟩
    · exact chk_iff.2 ⟨(chk_iff.1 h).1, (chk_iff.1 h).2.1, (chk_iff.1 h).2.2.1, hK (chk_iff.1 h).2.2.2⟩
    · exact chk_iff.2 ⟨(chk_iff.1 h).1, (chk_iff.1 h).2.1, (chk_iff.1 h).2.2.1, hK (chk_iff.1 h).2.2.2⟩
    · split at h
      · exact chk_iff.2 ⟨(chk_iff.1 h).1, (chk_iff.1 h).2.1, (chk_iff.1 h).2.2.1, hK (chk_iff.1 h).2.2.2⟩
      · exact h.elim
    · exact h.elim
  | .slt wd es, a, h => by
    simp only [em] at h ⊢
    split at h
    · exact ⟨h.1, hK h.2⟩
    · exact chk_iff.2 ⟨(chk_iff.1 h).1, (chk_iff.1 h).2.1, (chk_iff.1 h).2.2.1, hK (chk_iff.1 h).2.2.2⟩
    · exact h.elim
  | .imm cs, a, h => by
    simp only [em] at h ⊢
    split at h <;> first | exact h.elim | exact ems_mono hK _ _ h
  | .agg cs, a, h => by
    simp only [em] at h ⊢
    split at h <;> first | exact h.elim | exact ems_mono hK _ _ h
  | .tup cs, a, h => by
    simp only [em] at h ⊢
    split at h <;> first | exact h.elim | exact ems_mono hK _ _ h
  | .func fn cs es, a, h => by
    simp only [em] at h ⊢
    split at h <;> first | exact h.elim | exact ⟨h.1, ems_mono (fun h => ems_mono hK _ _ h) _ _ h.2⟩
  | .ifc t x, a, h => by
    simp only [em] at h ⊢
    split at h <;> first | exact h.elim | exact chk_iff.2 ⟨(chk_iff.1 h).1, em_mono hK _ _ (chk_iff.1 h).2⟩
theorem ems_mono {fz : Bool} {π : List Nat} {L : Store} {K K' : Prop} (hK : K → K') : ∀ (cs ds : List AV), ems fz π L cs ds K → ems fz π L cs ds K'
  | [], ds, h => by
    simp only [ems] at h ⊢
    split at h <;> first | exact h.elim | exact hK h
  | c :: cs, ds, h => by
    simp only [ems] at h ⊢
    split at h <;> first | exact h.elim | exact em_mono (fun h => ems_mono hK _ _ h) _ _ h
end
theorem efr_mono {fz : Bool} {π : List Nat} {L : Store} {fr : AFr} {K K' : Prop} (hK : K → K') : ∀ (l : List (Nat × AV)), efr fz π L fr l K → efr fz π L fr l K'
  | [], h => hK h
  | (t, c) :: l, h => em_mono (fun h => efr_mono hK l h) _ _ h
theorem eobj_mono {fz : Bool} {π : List Nat} {L : Store} {K K' : Prop} (hK : K → K') : ∀ (o' o : AO), eobj fz π L o' o K → eobj fz π L o' o K'
  | .arr wd es, o, h => by
    simp only [eobj] at h ⊢
    split at h <;> first | exact h.elim | exact chk_iff.2 ⟨(chk_iff.1 h).1, (chk_iff.1 h).2.1, (chk_iff.1 h).2.2.1, hK (chk_iff.1 h).2.2.2⟩
  | .box wd e, o, h => by
    simp only [eobj] at h ⊢
    split at h <;> first | exact h.elim | exact chk_iff.2 ⟨(chk_iff.1 h).1, ems_mono hK _ _ (chk_iff.1 h).2⟩
  | .mp es, o, h => by
    simp only [eobj] at h ⊢
    split at h <;> first | exact h.elim | exact ⟨h.1, h.2.1, h.2.2.1, hK h.2.2.2⟩
  | .loop st pend n l ps as bd, o, h => by
    simp only [eobj] at h ⊢
    split at h <;> first | exact h.elim | exact ⟨h.1, h.2.1, h.2.2.1, h.2.2.2.1, h.2.2.2.2.1, h.2.2.2.2.2.1, efr_mono hK _ h.2.2.2.2.2.2⟩
theorem eobjs_mono {fz : Bool} {π : List Nat} {L : Store} {K K' : Prop} (hK : K → K') : ∀ (ps : List Nat) (L' : Store), eobjs fz π L ps L' K → eobjs fz π L ps L' K'
  | [], [], h => hK h
  | [], _ :: _, h => h.elim
  | _ :: _, [], h => h.elim
  | p :: ps, x :: xs, h => by
    simp only [eobjs] at h ⊢
    split at h
    · exact eobjs_mono hK ps xs h
    · split at h
      · exact eobj_mono (fun h => eobjs_mono hK ps xs h) _ _ h
      · exact h.elim
theorem TPure.adj {P : Program} {f : FuncId} {args args' : List AV} {r : AV} (h : TPure P f args r) (he : ems false [] [] args args' True) : TPure P f args' r := by
  intro w I vs hI hv
  have cx : Ctx false w I [] [] I [] [] := ⟨fun p o b ho hb => by simp at hb, fun _ h => h, fun i p b h => by simp at h, fun h => by cases h⟩
  obtain ⟨e1, e2, _⟩ := ems_ok cx _ _ _ he
  refine h w I vs hI ⟨hv.1.trans e1.symm, fun j v c hj hc => ?_⟩
  obtain ⟨d, hd⟩ : ∃ d, args'[j]? = some d := ⟨_, List.getElem?_eq_getElem (by have := (List.getElem?_eq_some_iff.1 hc).1; omega)⟩
  exact e2 j c d hc hd v (hv.2 j v d hj hd)
theorem TC.pureX {P : Program} {f : FuncId} {args args' : List AV} {r : AV} {L : Store} (h : TPure P f args r) (he : ems false [] L args args' True) : TC P f args' L fun x L' => x = .ret r ∧ L' = L :=
  TC.pureE h (ems_mono (fun _ => ⟨rfl, rfl⟩) _ _ he)
theorem TC.pureXT {P : Program} {f : FuncId} {args args' : List AV} {r : AV} {L : Store} (h : TPure P f args r) (hp : r.plain = true) (he : ems true [] L args args' True) : TC P f args' L fun x L' => x = .ret r ∧ L' = L :=
  TC.pureT h hp (ems_mono (fun _ => ⟨rfl, rfl⟩) _ _ he)
/-- A test that is so. -/
theorem byes {b : Bool} {X Y : Prop} : b = true → X → (match b with | true => X | false => Y) := fun h hx => by
  subst h
  exact hx
theorem bno {b : Bool} {X Y : Prop} : b = false → Y → (match b with | true => X | false => Y) := fun h hx => by
  subst h
  exact hx
theorem eqT {A : Ar} {a b : Int} (h : a = b) : A.eq a b = true := by rw [A.ok_eq]; simpa using h
theorem eqF {A : Ar} {a b : Int} (h : a ≠ b) : A.eq a b = false := by rw [A.ok_eq]; simpa using h
theorem beqT {A : Ar} {a b : Bool} (h : a = b) : A.beq a b = true := by rw [A.ok_beq]; simpa using h
theorem neF {A : Ar} {a b : Int} (h : a = b) : A.bnot (A.eq a b) = false := by rw [A.ok_bnot, eqT h]; rfl
theorem neT {A : Ar} {a b : Int} (h : a ≠ b) : A.bnot (A.eq a b) = true := by rw [A.ok_bnot, eqF h]; rfl
theorem nbF {A : Ar} {a b : Bool} (h : a = b) : A.bnot (A.beq a b) = false := by rw [A.ok_bnot, beqT h]; rfl
theorem nbT {A : Ar} {a b : Bool} (h : a ≠ b) : A.bnot (A.beq a b) = true := by rw [A.ok_bnot, A.ok_beq]; simpa using h
theorem seqT {A : Ar} {a b : ByteArray} (h : a = b) : A.seq a b = true := by
  subst h
  rw [A.ok_seq]
  simp [strEq]
theorem ltT {A : Ar} {a b : Int} (h : a < b) : A.lt a b = true := by rw [A.ok_lt]; simpa using h
theorem ltF {A : Ar} {a b : Int} (h : b ≤ a) : A.lt a b = false := by rw [A.ok_lt]; simpa using h
theorem leT {A : Ar} {a b : Int} (h : a ≤ b) : A.le a b = true := by rw [A.ok_le]; simpa using h
theorem leF {A : Ar} {a b : Int} (h : b < a) : A.le a b = false := by rw [A.ok_le]; simpa using h
theorem pur_cons {a : AV} {l : List AV} (h : a.pur = true) (k : purL l = true) : purL (a :: l) = true := by simp only [purL, h, k]; rfl
theorem pur_sl {w : Nat} {l : List AV} (h : purL l = true) : (AV.sl w l).pur = true := by simpa [AV.pur] using h
theorem pur_slt {w : Nat} {l : List AV} (h : purL l = true) : (AV.slt w l).pur = true := by simpa [AV.pur] using h
theorem pur_agg {l : List AV} (h : purL l = true) : (AV.agg l).pur = true := by simpa [AV.pur] using h
theorem pur_tup {l : List AV} (h : purL l = true) : (AV.tup l).pur = true := by simpa [AV.pur] using h
/-- A call with one end. -/
def TC1 (P : Program) (f : FuncId) (args : List AV) (L : Store) (v : AV) (L' : Store) : Prop := TC P f args L fun x M => x = .ret v ∧ M = L'
theorem TC1.call {P : Program} {f : FuncId} {args args' : List AV} {L Ls Ls' : Store} {v : AV} {R : AEnd → Store → Prop} (π : List Nat) (h : TC1 P f args Ls v Ls')
    (he : chk (okπ 0 L.length π) (eobjs false π L π Ls (ems false π L args args' (chk (Nat.ble π.length Ls'.length) (ern (newsE L π Ls'.length) v fun v' => ernS (newsE L π Ls'.length) Ls' fun M => R (.ret v') (mergeP L π M)))))) : TC P f args' L R := by
  refine TCS.call (σ := Unit) (S := ⟨fun _ => True, fun _ => v, fun _ => Ls'⟩) π ⟨h.h.mono fun x M hx => ⟨(), trivial, hx.1, hx.2⟩⟩ ?_
  refine chk_iff.2 ⟨(chk_iff.1 he).1, ?_⟩
  refine eobjs_mono (fun h => ?_) _ _ (chk_iff.1 he).2
  refine ems_mono (fun h => ?_) _ _ h
  rintro s _ v L' rfl rfl
  exact h
/-- The one end of a call. -/
structure R1 (K : Nat) (v : AV) (L : Store) (v0 : AV) (L0 : Store) : Prop where
  h : VSV K v0 L0 v L
theorem R1.of {K : Nat} {v v0 : AV} {L L0 : Store} (h : eVS K (autoπ K ⟨1, [(0, v0)]⟩ L0 [(0, v)] L) ⟨1, [(0, v0)]⟩ L0 [(0, v)] L True) : R1 K v L v0 L0 := ⟨(eVS_ok h).1⟩
def ebody1 (T : TyOps) (rs : List ResultVar) (K : Nat) (v : AV) (M : Store) : AEx → AFr → Store → Prop
  | .normal, fr, L => eres T fr L rs fun vs => R1 K v M (aone vs) L
  | .ret, fr, L => eres T fr L rs fun vs => R1 K v M (aone vs) L
  | _, _, _ => False
theorem TC1.of (A : Ar) {P : Program} {f : FuncId} {fn : Func} {c : Code} {args : List AV} {L : Store} (v : AV) (M : Store) (T : TyOps) (hT : T = tyOf P) (hf : P.funcs[f]? = some fn) (hb : fn.body = some c) (n : Nat) (hnt : fn.ntmps = n) (hn : args.length ≤ n)
    (h : ewp A T P none L.length c (ebody1 T fn.results.toList L.length v M) (frame0 n args) L) : TC1 P f args L v M := by
  subst hT hnt
  refine ⟨TCall.of_tw hf hb hn ((Tw.of_ewp _ _ _ _ h).mono fun e fr L' hq => ?_)⟩
  have key : ∀ vs, R1 L.length v M (aone vs) L' → ∃ v' L'', VSV L.length (aone vs) L' v' L'' ∧ AEnd.ret v' = .ret v ∧ L'' = M := fun vs ⟨h⟩ => ⟨_, _, h, rfl, rfl⟩
  cases e <;> first | exact hq.elim | exact eres_ok (eres_mono key hq)
/-- A loop whose states are told by the objects that there are at its begin. -/
theorem TW.loopL {σ : Type} (A : Ar) {T : TyOps} {P : Program} {r : Option Nat} {K : Nat} {c : Code} {Q : AEx → AFr → Store → Prop} {fr : AFr} {L : Store} (hT : T = tyOf P) (S : Store → LI σ) (n : Nat) (hn : fr.n = n) (s0 : σ) (hi : (S L).inv s0)
    (hv : eVS K (autoπ K fr L ((S L).fr s0) ((S L).st s0)) fr L ((S L).fr s0) ((S L).st s0) True)
    (round : ∀ s, (S L).inv s → ∀ (I : LI σ) (l1 : List (Nat × AV)) (L1 : Store), I = S L → l1 = (S L).fr s → L1 = (S L).st s → ewp A T P r K c (thenQ (LM I K n s) Q) ⟨n, l1⟩ L1) : TW P r K (.loop c) Q fr L :=
  TW.loopM A hT (S L) n hn s0 hi hv fun s hs l1 L1 e1 e2 => round s hs _ l1 L1 rfl e1 e2
end Go.Proofs.Ytpjibokaeefhiaa.Tw
