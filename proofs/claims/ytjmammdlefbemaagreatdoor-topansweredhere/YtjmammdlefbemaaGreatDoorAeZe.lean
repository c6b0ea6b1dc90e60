/- The abstract evaluator: drawn regions, the last part: they are sound. -/
import Derived.Test.YtjmammdlefbemaaGreatDoorAeZd
set_option linter.unusedVariables false
set_option linter.unusedSectionVars false
namespace Go.Ae

theorem Ls_set {listed : Array Bool} {i : Nat} (hi : i < listed.size) : (fun j => Ls listed j ∨ j = i) = Ls (listed.setIfInBounds i true) := by
  funext j
  unfold Ls
  by_cases hij : i = j
  · subst hij; simp [hi]
  · rw [getD_set_ne false hij]
    simp
    intro h; exact absurd h.symm hij

def cntU (n : Nat) (listed : Array Bool) : Nat := ((List.range n).filter fun i => !listed.getD i true).length

theorem cntU_set {n : Nat} {listed : Array Bool} {i : Nat} (hi : i < n) (hs : i < listed.size) (hu : listed.getD i true = false) : cntU n (listed.setIfInBounds i true) < cntU n listed := by
  unfold cntU
  have h1 : ((List.range n).filter fun j => !(listed.setIfInBounds i true).getD j true) = ((List.range n).filter fun j => !listed.getD j true).filter fun j => !(decide (j = i)) := by
    rw [List.filter_filter]
    refine List.filter_congr (fun j _ => ?_)
    by_cases hij : i = j
    · subst hij; simp [hs]
    · rw [getD_set_ne true hij]
      have : ¬ j = i := fun h => hij h.symm
      simp [this]
  rw [h1, List.length_filter_lt_length_iff_exists]
  refine ⟨i, List.mem_filter.2 ⟨List.mem_range.2 hi, by rw [hu]; rfl⟩, by simp⟩

theorem cntU_zero {n : Nat} {listed : Array Bool} (hn : listed.size = n) (h : cntU n listed = 0) : ∀ i, i < n → Ls listed i := by
  intro i hi
  unfold cntU at h
  have h := List.eq_nil_of_length_eq_zero h
  rw [List.filter_eq_nil_iff] at h
  have := h i (List.mem_range.2 hi)
  unfold Ls
  have hlt : i < listed.size := by omega
  simp [hlt] at this ⊢
  exact this

section
variable {P : Program} {C : Ctx} (H : CtxOK P C) {ib : Nat → Bool} (hib : ∀ f, ib f = true → IdxOK P f) {q N : Nat} {inR : Bool} {id : Nat} {arr : Array Oper} {t0 tf : TT} {CY : Bool → CallT} (hcy : CYOK P C CY)

theorem sched_end {kn : St} {hf : HH} {nf : Nat} {Df : DL} {base : World} {n0 : Nat} {S : Nat → Prop} (hall : ∀ i, i < arr.toList.length → ∃ w o, OpF C ib q N inR id arr w i o) (hout : ∀ x, (∀ (j : Nat) (o : Oper), arr.toList[j]? = some o → o.dst ≠ some x) → tget tf x = tget t0 x)
    (hS : ∀ i, i < arr.toList.length → S i) {b : Frame} {k : List Item} {cs : List Frame} {prev : Option Nat} {he : HH} {ne : Nat} {D : DL} {M : Nat} {ws : List Nat} {Γ : Gam} {w : World} {a : Act}
    (I : SI P C ib q N inR id arr base t0 tf S Γ w a prev he ne D ws) (T : Tail P C ib q N inR id arr kn t0 tf hf nf Df prev he ne D M ws) :
    ∃ Γ' w' a', Gam.ext n0 Γ Γ' ∧ Rel base Γ' hf nf w' ∧ RelD P Γ' Df a'.defers ∧ N ≤ a'.tmps.size ∧ (∀ x, VR Γ' (tget tf x) (a'.tmps.getD x undef)) ∧
      Steps P (lone (fat b a (.inRegion arr [] :: k)) cs w) (lone (fat b a' (.inRegion arr [] :: k)) cs w') := by
  cases T with
  | last hM hk =>
    refine ⟨Γ, w, a, Gam.ext_refl _ _, I.rel, I.df, I.sz, fun x => ?_, .refl _ _⟩
    have h1 := I.tm x
    unfold tvS at h1
    by_cases hc : ∃ (j : Nat) (o : Oper), S j ∧ arr.toList[j]? = some o ∧ o.dst = some x
    · rw [if_pos hc] at h1; exact h1
    · rw [if_neg hc, ← hout x (fun j o ho hd => hc ⟨j, o, hS j (List.getElem?_eq_some_iff.1 ho).1, ho, hd⟩)] at h1
      exact h1
  | next hM hw hch hW hn hv hpp hgn hgh hN' tl =>
    exact (I.notws _ (by simp) (hS _ (List.getElem?_eq_some_iff.1 hw.at_).1)).elim

theorem sched_go {kn : St} {hf : HH} {nf : Nat} {Df : DL} {base : World} {n0 : Nat} (hall : ∀ i, i < arr.toList.length → ∃ w o, OpF C ib q N inR id arr w i o)
    (hstk : ∀ S, Stuck arr S → ∀ i, i < arr.toList.length → S i) (hout : ∀ x, (∀ (j : Nat) (o : Oper), arr.toList[j]? = some o → o.dst ≠ some x) → tget tf x = tget t0 x)
    (hinj : ∀ i o d i' o' d' b, OpF C ib q N inR id arr false i o → OpF C ib q N inR id arr false i' o' → o.dst = some d → o'.dst = some d' → pnd C ib q id tf i o d = some b → pnd C ib q id tf i' o' d' = some b → i = i')
    (hlow : ∀ i o d b, OpF C ib q N inR id arr false i o → o.dst = some d → pnd C ib q id tf i o d = some b → n0 ≤ b)
    {b : Frame} {k : List Item} {cs : List Frame} (hgl : GlOK C base) (hs : Side q inR b cs) :
    ∀ (fuel t : Nat) (listed : Array Bool) {prev : Option Nat} {he : HH} {ne : Nat} {D : DL} {M : Nat} {ws : List Nat} {Γ : Gam} {w : World} {a : Act}, listed.size = arr.size → cntU arr.size listed ≤ fuel →
      SI P C ib q N inR id arr base t0 tf (Ls listed) Γ w a prev he ne D ws → n0 ≤ ne → Tail P C ib q N inR id arr kn t0 tf hf nf Df prev he ne D M ws → (∀ i, bitG M i = true → NWF P C ib q N inR id arr t0 tf i he ne) →
      ∃ Γ' w' a', Gam.ext n0 Γ Γ' ∧ Rel base Γ' hf nf w' ∧ RelD P Γ' Df a'.defers ∧ N ≤ a'.tmps.size ∧ (∀ x, VR Γ' (tget tf x) (a'.tmps.getD x undef)) ∧
        Steps P (lone (fat b a (.inRegion arr (Region.linearise.go .any arr fuel t listed []) :: k)) cs w) (lone (fat b a' (.inRegion arr [] :: k)) cs w') := by
  intro fuel
  induction fuel with
  | zero =>
    intro t listed prev he ne D M ws Γ w a hsz hc I hn0 T hN
    have := sched_end (n0 := n0) (b := b) (k := k) (cs := cs) hall hout (fun i hi => cntU_zero hsz (by omega) i (by simpa using hi)) I T
    simpa [Region.linearise.go] using this
  | succ fuel ih =>
    intro t listed prev he ne D M ws Γ w a hsz hc I hn0 T hN
    simp only [Region.linearise.go]
    change ∃ Γ' w' a', Gam.ext n0 Γ Γ' ∧ Rel base Γ' hf nf w' ∧ RelD P Γ' Df a'.defers ∧ N ≤ a'.tmps.size ∧ (∀ x, VR Γ' (tget tf x) (a'.tmps.getD x undef)) ∧
        Steps P (lone (fat b a (.inRegion arr (match (Region.ready .any arr listed)[t % (Region.ready .any arr listed).length]? with
          | some i => Region.linearise.go .any arr fuel (t / (Region.ready .any arr listed).length) (listed.setIfInBounds i true) [i]
          | none => [].reverse) :: k)) cs w) (lone (fat b a' (.inRegion arr [] :: k)) cs w')
    cases hi : (Region.ready .any arr listed)[t % (Region.ready .any arr listed).length]? with
    | none =>
      have hnil : Region.ready .any arr listed = [] := by
        cases hr : Region.ready .any arr listed with
        | nil => rfl
        | cons x xs =>
          rw [hr] at hi
          have hlt : t % (x :: xs).length < (x :: xs).length := Nat.mod_lt _ (by simp)
          simp at hi
          simp at hlt
          omega
      have hstuck : Stuck arr (Ls listed) := by
        intro i o ho hp
        by_cases hli : Ls listed i
        · exact hli
        · exfalso
          have hlt := (List.getElem?_eq_some_iff.1 ho).1
          have hlt' : i < listed.size := by rw [hsz]; simpa using hlt
          have hm : i ∈ Region.ready .any arr listed := by
            rw [mem_ready]
            refine ⟨?_, o, by simpa using ho, fun e he hb => hp e.on ((predM_ok o e.on).2 ⟨e, he, hb, rfl⟩)⟩
            unfold Ls at hli
            simp [hlt'] at hli ⊢
            exact hli
          rw [hnil] at hm
          cases hm
      exact sched_end (n0 := n0) (b := b) (k := k) (cs := cs) hall hout (hstk _ hstuck) I T
    | some i =>
      simp only []
      have hm := List.mem_of_getElem? hi
      rw [mem_ready] at hm
      obtain ⟨hu, o, ho, hpre⟩ := hm
      have hlt : i < arr.size := (Array.getElem?_eq_some_iff.1 ho).1
      have hls : i < listed.size := by rw [hsz]; exact hlt
      have hni : ¬ Ls listed i := by
        unfold Ls
        simp [hls] at hu ⊢
        exact hu
      obtain ⟨prev', he', ne', D', M', ws', Γ₁, w₁, a₁, hext, I', hn0', T', hN', hst⟩ := sched_step (P := P) (k := k) hall hinj hlow hgl hs I hn0 T hN (by simpa using ho) hni (mask_after.1 hpre)
        (Region.linearise.go .any arr fuel (t / (Region.ready .any arr listed).length) (listed.setIfInBounds i true) [])
      rw [Ls_set hls] at I'
      obtain ⟨Γ', w', a', hext', hR, hD, hsz', htm, hst'⟩ := ih (t / (Region.ready .any arr listed).length) (listed.setIfInBounds i true) (by simpa using hsz) (by have := cntU_set hlt hls hu; omega) I' hn0' T' hN'
      refine ⟨Γ', w', a', Gam.ext_trans hext (Nat.le_refl _) hext', hR, hD, hsz', htm, ?_⟩
      rw [linearise_go_acc, List.reverse_singleton, List.singleton_append]
      exact hst.trans hst'

include H hib hcy in
theorem draw_ok : DrawSnd P C ib q N inR CY id arr := by
  intro kn t h n D hk
  have hk : (Bool.rec (motive := fun _ => BX OT) (.mk fun _ _ _ _ _ _ => ecode q id 998) (phsD C ib q inR id (drOf arr.toList) (planOf C ib q id (drOf arr.toList)).2 (planOf C ib q id (drOf arr.toList)).1)
    (chkPhs C ib q N inR id (drOf arr.toList) (planOf C ib q id (drOf arr.toList)).2 (planOf C ib q id (drOf arr.toList)).1 0 none) : BX OT).run CY kn t h n D = 0 := hk
  generalize planOf C ib q id (drOf arr.toList) = pl at hk
  cases hc : chkPhs C ib q N inR id (drOf arr.toList) pl.2 pl.1 0 none with
  | false => rw [hc] at hk; exact absurd (show ecode q id 998 = 0 from hk) (ecode_ne _ _ _)
  | true =>
    rw [hc] at hk
    have hk : (phsD C ib q inR id (drOf arr.toList) pl.2 pl.1).run CY kn t h n D = 0 := hk
    have F0 : FI C ib q N inR id arr t t 0 n := ⟨fun _ _ => rfl, fun j hj => (by rw [bitG_zero] at hj; cases hj), fun j o hj => (by rw [bitG_zero] at hj; cases hj), fun j o d b hj => (by rw [bitG_zero] at hj; cases hj)⟩
    obtain ⟨tf, he, ne, Me, ws, hf, nf, Df, g1, g2, g3, g4, g5, g6, g7, g8, g9⟩ := phs_good H hib hcy pl.1 hk hc F0
    have none0 : ∀ j, bitG 0 j = false := bitG_zero
    have hstk : ∀ S, Stuck arr S → ∀ i, i < arr.toList.length → S i := fun S hS => phs_all (fun w i R hm hR => by
      obtain ⟨o, hop, hpre, _, _⟩ := mayRun_ok hm
      exact hS i o hop.at_ (fun j hj => hR j (hpre j hj))) pl.1 hc (fun j hj => by rw [bitG_zero] at hj; cases hj)
    have hall : ∀ i, i < arr.toList.length → ∃ w o, OpF C ib q N inR id arr w i o := phs_all (S := fun i => ∃ w o, OpF C ib q N inR id arr w i o) (fun w i R hm _ => by
      obtain ⟨o, hop, _, _, _⟩ := mayRun_ok hm
      exact ⟨w, o, hop⟩) pl.1 hc (fun j hj => by rw [bitG_zero] at hj; cases hj)
    refine ⟨tf, hf, nf, Df, g7.kn, Nat.le_trans g2 g7.le, fun base Γ w b k cs a hgl hs S => ?_⟩
    have R1 : Rel base Γ h n { w with drawn := w.drawn + 1 } := ⟨S.rel.os, S.rel.tape, S.rel.output, S.rel.size, S.rel.old, S.rel.rng, S.rel.fresh, S.rel.blk, S.rel.inj⟩
    have noneL : ∀ j, ¬ Ls (Array.replicate arr.size false) j := fun j hj => by
      unfold Ls at hj
      by_cases hlt : j < arr.size <;> simp [hlt] at hj
    have I0 : SI P C ib q N inR id arr base t tf (Ls (Array.replicate arr.size false)) Γ { w with drawn := w.drawn + 1 } a none he ne D ws := by
      refine ⟨fun i o hi => (noneL i hi).elim, R1.grow g2 g3, S.df, S.sz, fun x => ?_, fun i o d bb hi hop hd hb => S.rel.fresh bb (g5.1 i o d bb (bitG_zero i) hop hd hb), fun w _ hw => noneL w hw, fun p hp => (by cases hp), fun i hi hw => ?_⟩
      · unfold tvS
        rw [if_neg (fun ⟨j, o, hj, _⟩ => noneL j hj)]
        exact S.tm x
      · rcases g9 i hi hw with h1 | h1
        · rw [bitG_zero] at h1; cases h1
        · exact .inr h1
    obtain ⟨Γ', w', a', hext, hR, hD, hsz, htm, hst⟩ := sched_go (P := P) (k := k) (n0 := n) hall hstk g8
      (fun i o d i' o' d' b h1 h2 hd1 hd2 hb1 hb2 => g5.2 i o d i' o' d' b (bitG_zero i) (bitG_zero i') h1 h2 hd1 hd2 hb1 hb2)
      (fun i o d b hop hd hb => g5.1 i o d b (bitG_zero i) hop hd hb) hgl hs arr.size (w.tape w.drawn (.order b.fn id)) (Array.replicate arr.size false) (by simp)
      (by unfold cntU; have := List.length_filter_le (fun i => !(Array.replicate arr.size false).getD i true) (List.range arr.size); simpa using this) I0 g2 g7
      (fun i hi => by
        rcases g6 i hi with h1 | h1
        · rw [bitG_zero] at h1; cases h1
        · exact h1)
    refine ⟨Γ', w', a', hext, ⟨hR, htm, hsz, hD⟩, .head fat_region_draw (.trans (m₁ := lone (fat b a' (.inRegion arr [] :: k)) cs w') ?_ (.one fat_region_end))⟩
    have e1 : Region.schedule (P.follows .mixedOrders) arr (w.tape w.drawn (.order b.fn id)) = Region.linearise.go .any arr arr.size (w.tape w.drawn (.order b.fn id)) (Array.replicate arr.size false) [] := by
      simp only [Region.schedule, H.mixed, Bool.true_or, if_true]
      rfl
    rw [e1]
    exact hst
end
end Go.Ae
