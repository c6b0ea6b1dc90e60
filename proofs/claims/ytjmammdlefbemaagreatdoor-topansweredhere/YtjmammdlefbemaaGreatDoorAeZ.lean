/- The abstract evaluator: drawn regions, fourth part: what a plan that was run shows. -/
import Derived.Test.YtjmammdlefbemaaGreatDoorAeY
set_option linter.unusedVariables false
set_option linter.unusedSectionVars false
namespace Go.Ae

theorem NWStep.congr {P : Program} {C : Ctx} {q : Nat} {inR : Bool} {arr : Array Oper} {i : Nat} {o : Oper} {v : AV} {pend : Option Nat} {h : HH} {n : Nat} {sv sv' : Nat → AV}
    (H : NWStep P C q inR arr i o v pend h n sv) (hs : ∀ x ∈ o.looksAt arr, sv' x = sv x) : NWStep P C q inR arr i o v pend h n sv' := by
  intro base Γ w b k cs a rest hgl hsd R hu hp
  exact H base Γ w b k cs a rest hgl hsd R (fun x hx => by rw [← hs x hx]; exact hu x hx) hp

section
variable (P : Program) (C : Ctx) (ib : Nat → Bool) (q N : Nat) (inR : Bool) (id : Nat) (arr : Array Oper)

open Classical in
/-- what operation o sees at x -/
noncomputable def SV (t0 tf : TT) (o : Oper) (x : Nat) : AV := if ∃ j, Tr.get 0 (drOf arr.toList).dst x = j + 1 ∧ bitG (predM o) j = true then tget tf x else tget t0 x

noncomputable def pnd (tf : TT) (i : Nat) (o : Oper) (d : Nat) : Option Nat := pendOf (cop C ib (ecode q id i) o) (tget tf d)

def NWF (t0 tf : TT) (i : Nat) (he : HH) (ne : Nat) : Prop :=
  ∃ o d, OpF C ib q N inR id arr false i o ∧ o.dst = some d ∧ NWStep P C q inR arr i o (tget tf d) (pnd C ib q id tf i o d) he ne (SV arr t0 tf o)

/-- a writer, run -/
def WF (t0 tf : TT) (i : Nat) (o : Oper) (v : AV) (h : HH) (n : Nat) (D : DL) (h' : HH) (n' : Nat) (D' : DL) : Prop :=
  ∀ base Γ w b k cs (a : Act) rest, GlOK C base → Side q inR b cs → Rel base Γ h n w → RelD P Γ D a.defers → (∀ x ∈ o.looksAt arr, VR Γ (SV arr t0 tf o x) (a.tmps.getD x undef)) →
    ∃ Γ' w' V df, Gam.ext n Γ Γ' ∧ Rel base Γ' h' n' w' ∧ VR Γ' v V ∧ RelD P Γ' D' df ∧
      Steps P (lone (fat b a (.inRegion arr (i :: rest) :: k)) cs w) (lone (fat b (({ a with defers := df } : Act).put o.dst V) (.inRegion arr rest :: k)) cs w')

inductive Tail (kn : St) (t0 tf : TT) (hf : HH) (nf : Nat) (Df : DL) : Option Nat → HH → Nat → DL → Nat → List Nat → Prop where
  | last {prev : Option Nat} {M : Nat}
      (hM : ∀ i, i < arr.toList.length → wrI C ib q id arr.toList i = true ∨ bitG M i = true ∨ ∃ p, prev = some p ∧ bitG (Tr.get 0 (drOf arr.toList).anc p) i = true)
      (hk : kn tf hf nf Df = 0) : Tail kn t0 tf hf nf Df prev hf nf Df M []
  | next {prev : Option Nat} {he : HH} {ne : Nat} {D : DL} {M : Nat} {w : Nat} {o : Oper} {v : AV} {h0 : HH} {n0 : Nat} {D' : DL} {he' : HH} {ne' : Nat} {M' : Nat} {ws : List Nat}
      (hM : ∀ i, i < arr.toList.length → wrI C ib q id arr.toList i = true ∨ bitG M i = true ∨ bitG (Tr.get 0 (drOf arr.toList).anc i) w = true ∨ ∃ p, prev = some p ∧ bitG (Tr.get 0 (drOf arr.toList).anc p) i = true)
      (hw : OpF C ib q N inR id arr true w o) (hch : ∀ p, prev = some p → bitG (Tr.get 0 (drOf arr.toList).anc w) p = true)
      (hW : WF P C q inR arr t0 tf w o v he ne D h0 n0 D') (hn : ne ≤ n0) (hv : ∀ d, o.dst = some d → tget tf d = v)
      (hp : ∀ i o d b, OpF C ib q N inR id arr false i o → o.dst = some d → pnd C ib q id tf i o d = some b → b < ne ∨ n0 ≤ b)
      (hgn : n0 ≤ ne') (hgh : ∀ b, b < n0 → hget he' b = hget h0 b)
      (hN : ∀ i, bitG M' i = true → NWF P C ib q N inR id arr t0 tf i he' ne')
      (tl : Tail kn t0 tf hf nf Df (some w) he' ne' D' M' ws) : Tail kn t0 tf hf nf Df prev he ne D M (w :: ws)

/-- is x the answer of an operation of R? -/
def isDst (R : Nat) (x : Nat) : Prop := ∃ j o, bitG R j = true ∧ arr.toList[j]? = some o ∧ o.dst = some x

structure FI (t0 t : TT) (R n : Nat) : Prop where
  out : ∀ x, ¬ isDst arr R x → tget t x = tget t0 x
  ops : ∀ j, bitG R j = true → ∃ w o, OpF C ib q N inR id arr w j o
  closed : ∀ j o, bitG R j = true → arr.toList[j]? = some o → ∀ k, bitG (predM o) k = true → bitG R k = true
  pend : ∀ j o d b, bitG R j = true → OpF C ib q N inR id arr false j o → o.dst = some d → pnd C ib q id t j o d = some b → b < n

def Later (tf : TT) (R n : Nat) : Prop :=
  (∀ i o d b, bitG R i = false → OpF C ib q N inR id arr false i o → o.dst = some d → pnd C ib q id tf i o d = some b → n ≤ b) ∧
  (∀ i o d i' o' d' b, bitG R i = false → bitG R i' = false → OpF C ib q N inR id arr false i o → OpF C ib q N inR id arr false i' o' → o.dst = some d → o'.dst = some d' →
    pnd C ib q id tf i o d = some b → pnd C ib q id tf i' o' d' = some b → i = i')

def Good (kn : St) (t0 t : TT) (h : HH) (n : Nat) (D : DL) (R M : Nat) (prev : Option Nat) : Prop :=
  ∃ tf he ne Me ws hf nf Df, hle h he ∧ n ≤ ne ∧ (∀ b, b < n → hget he b = hget h b) ∧ (∀ x, isDst arr R x → tget tf x = tget t x) ∧ Later C ib q N inR id arr tf R n ∧
    (∀ i, bitG Me i = true → bitG M i = true ∨ NWF P C ib q N inR id arr t0 tf i he ne) ∧ Tail P C ib q N inR id arr kn t0 tf hf nf Df prev he ne D Me ws ∧
    (∀ x, (∀ (j : Nat) (o : Oper), arr.toList[j]? = some o → o.dst ≠ some x) → tget tf x = tget t0 x) ∧
    (∀ i, i < arr.toList.length → wrI C ib q id arr.toList i = true → bitG R i = true ∨ i ∈ ws)
end

section
variable {P : Program} {C : Ctx} (H : CtxOK P C) {ib : Nat → Bool} (hib : ∀ f, ib f = true → IdxOK P f) {q N : Nat} {inR : Bool} {id : Nat} {arr : Array Oper} {CY : Bool → CallT} (hcy : CYOK P C CY)

theorem OpF.dst_inj {w w' : Bool} {i j : Nat} {o o' : Oper} {d : Nat} (h : OpF C ib q N inR id arr w i o) (h' : OpF C ib q N inR id arr w' j o') (hd : o.dst = some d) (hd' : o'.dst = some d) : i = j := by
  have h1 := (h.dst d hd).1
  have h2 := (h'.dst d hd').1
  omega

/-- what an operation sees in the run is SV -/
theorem FI.sees {t0 t tf : TT} {R n : Nat} (F : FI C ib q N inR id arr t0 t R n) {o : Oper} {i : Nat} (hu : UsesR arr.toList arr R i o) (hp : ∀ j, bitG (predM o) j = true → bitG R j = true) (hf : ∀ x, isDst arr R x → tget tf x = tget t x) :
    ∀ x ∈ o.looksAt arr, SV arr t0 tf o x = tget t x := by
  intro x hx
  unfold SV
  have nodst : (∀ j', Tr.get 0 (drOf arr.toList).dst x = j' + 1 → bitG R j' = false) → ¬ isDst arr R x := by
    intro hno ⟨j', o', hr, ho', hd'⟩
    obtain ⟨w, o'', hop⟩ := F.ops j' hr
    have : o'' = o' := by have := hop.at_; rw [ho'] at this; cases this; rfl
    subst this
    have := hno j' (hop.dst x hd').1
    rw [hr] at this; cases this
  by_cases hc : ∃ j, Tr.get 0 (drOf arr.toList).dst x = j + 1 ∧ bitG (predM o) j = true
  · rw [if_pos hc]
    obtain ⟨j, hj, hpj⟩ := hc
    obtain ⟨o', ho', hd'⟩ := drOf_dst hj
    exact hf x ⟨j, o', hp j hpj, ho', hd'⟩
  · rw [if_neg hc]
    symm
    refine F.out x (nodst (fun j' hj' => ?_))
    rcases hu x hx with h0 | ⟨j, hj, h1 | h1⟩
    · rw [h0] at hj'; cases hj'
    · exact absurd ⟨j, hj, h1⟩ hc
    · rw [hj] at hj'
      have : j = j' := by omega
      rw [← this]; exact h1

theorem isDst_or {R i x : Nat} {o : Oper} (ho : arr.toList[i]? = some o) : isDst arr (Nat.lor R (bit i)) x ↔ isDst arr R x ∨ o.dst = some x := by
  constructor
  · rintro ⟨j, o', hr, ho', hd'⟩
    rw [bitG_lor, Bool.or_eq_true, bitG_bit] at hr
    rcases hr with hr | rfl
    · exact .inl ⟨j, o', hr, ho', hd'⟩
    · rw [ho] at ho'; cases ho'; exact .inr hd'
  · rintro (⟨j, o', hr, ho', hd'⟩ | hd)
    · exact ⟨j, o', by rw [bitG_lor, hr]; rfl, ho', hd'⟩
    · exact ⟨i, o, by rw [bitG_lor, (bitG_bit i i).2 rfl]; simp, ho, hd⟩

theorem FI.run {t0 t : TT} {R n n' i : Nat} {o : Oper} {w : Bool} (F : FI C ib q N inR id arr t0 t R n) (hop : OpF C ib q N inR id arr w i o) (hni : bitG R i = false) (hp : ∀ j, bitG (predM o) j = true → bitG R j = true) (hn : n ≤ n') {v : AV}
    (hpd : ∀ d b, w = false → o.dst = some d → pendOf (cop C ib (ecode q id i) o) v = some b → b < n') : FI C ib q N inR id arr t0 (putD o.dst v t) (Nat.lor R (bit i)) n' := by
  have hput : ∀ x, o.dst ≠ some x → tget (putD o.dst v t) x = tget t x := by
    intro x hx
    cases hd : o.dst with
    | none => rfl
    | some d =>
      show tget (tset t d v) x = _
      rw [tget_tset, if_neg (fun h => hx (by rw [hd, h]))]
  refine ⟨fun x hx => ?_, fun j hj => ?_, fun j o' hj ho' k hk => ?_, fun j o' d b hj hop' hd' hb => ?_⟩
  · rw [isDst_or hop.at_] at hx
    rw [hput x (fun h => hx (.inr h))]
    exact F.out x (fun h => hx (.inl h))
  · rw [bitG_lor, Bool.or_eq_true, bitG_bit] at hj
    rcases hj with hj | rfl
    · exact F.ops j hj
    · exact ⟨w, o, hop⟩
  · rw [bitG_lor, Bool.or_eq_true, bitG_bit] at hj
    rw [bitG_lor]
    rcases hj with hj | rfl
    · rw [F.closed j o' hj ho' k hk]; rfl
    · have : o' = o := by have := hop.at_; rw [ho'] at this; cases this; rfl
      subst this
      rw [hp k hk]; rfl
  · rw [bitG_lor, Bool.or_eq_true, bitG_bit] at hj
    rcases hj with hj | rfl
    · have hne : o.dst ≠ some d := by
        intro hd
        have := hop.dst_inj hop' hd hd'
        subst this
        rw [hj] at hni; cases hni
      unfold pnd at hb
      rw [hput d hne] at hb
      exact Nat.lt_of_lt_of_le (F.pend j o' d b hj hop' hd' hb) hn
    · have : o' = o := by have h1 := hop.at_; have h2 := hop'.at_; rw [h1] at h2; cases h2; rfl
      subst this
      have hw : w = false := by rw [← hop.isw]; exact hop'.isw
      unfold pnd at hb
      rw [hd'] at hb
      have hb : pendOf (cop C ib (ecode q id i) o') (tget (tset t d v) d) = some b := hb
      rw [tget_tset, if_pos rfl] at hb
      exact hpd d b hw hd' hb
end
end Go.Ae
