/- The abstract evaluator: drawn regions, eighth part: any schedule comes to the plan's end. -/
import Derived.Test.YtjmammdlefbemaaGreatDoorAeZc
set_option linter.unusedVariables false
set_option linter.unusedSectionVars false
namespace Go.Ae

section
variable {P : Program} {C : Ctx} (H : CtxOK P C) {ib : Nat → Bool} (hib : ∀ f, ib f = true → IdxOK P f) {q N : Nat} {inR : Bool} {id : Nat} {arr : Array Oper}

def Ls (listed : Array Bool) (i : Nat) : Prop := listed.getD i false = true

open Classical in
/-- what the temporaries hold when those of S are done -/
noncomputable def tvS (arr : Array Oper) (t0 tf : TT) (S : Nat → Prop) (x : Nat) : AV := if ∃ (j : Nat) (o : Oper), S j ∧ arr.toList[j]? = some o ∧ o.dst = some x then tget tf x else tget t0 x

structure SI (P : Program) (C : Ctx) (ib : Nat → Bool) (q N : Nat) (inR : Bool) (id : Nat) (arr : Array Oper) (base : World) (t0 tf : TT) (S : Nat → Prop) (Γ : Gam) (w : World) (a : Act) (prev : Option Nat) (he : HH) (ne : Nat) (D : DL) (ws : List Nat) : Prop where
  cl : Closed arr.toList S
  rel : Rel base Γ he ne w
  df : RelD P Γ D a.defers
  sz : N ≤ a.tmps.size
  tm : ∀ x, VR Γ (tvS arr t0 tf S x) (a.tmps.getD x undef)
  pend : ∀ i o d b, ¬ S i → OpF C ib q N inR id arr false i o → o.dst = some d → pnd C ib q id tf i o d = some b → Γ b = none
  notws : ∀ w ∈ ws, ¬ S w
  prevS : ∀ p, prev = some p → S p
  wrs : ∀ i, i < arr.toList.length → wrI C ib q id arr.toList i = true → S i ∨ i ∈ ws

theorem sees_S {t0 tf : TT} {S : Nat → Prop} (hall : ∀ i, i < arr.toList.length → ∃ w o, OpF C ib q N inR id arr w i o) (hcl : Closed arr.toList S) {i : Nat} {o : Oper} (ho : arr.toList[i]? = some o) (hu : UsesF arr.toList arr i o) (hni : ¬ S i) (hp : ∀ j, bitG (predM o) j = true → S j) :
    ∀ x ∈ o.looksAt arr, SV arr t0 tf o x = tvS arr t0 tf S x := by
  intro x hx
  unfold SV tvS
  have isD : ∀ j o', arr.toList[j]? = some o' → o'.dst = some x → Tr.get 0 (drOf arr.toList).dst x = j + 1 := fun j o' ho' hd' => by
    obtain ⟨hlt, _⟩ := List.getElem?_eq_some_iff.1 ho'
    obtain ⟨w, o'', hop⟩ := hall j hlt
    have : o'' = o' := by have := hop.at_; rw [ho'] at this; cases this; rfl
    subst this
    exact (hop.dst x hd').1
  by_cases hc : ∃ j, Tr.get 0 (drOf arr.toList).dst x = j + 1 ∧ bitG (predM o) j = true
  · rw [if_pos hc]
    obtain ⟨j, hj, hpj⟩ := hc
    obtain ⟨o', ho', hd'⟩ := drOf_dst hj
    rw [if_pos ⟨j, o', hp j hpj, ho', hd'⟩]
  · rw [if_neg hc, if_neg]
    rintro ⟨j', o', hS, ho', hd'⟩
    have hj' := isD j' o' ho' hd'
    rcases hu x hx with h0 | ⟨j, hj, h1 | h1 | h1⟩
    · rw [h0] at hj'; cases hj'
    · exact hc ⟨j, hj, h1⟩
    · have : j = j' := by omega
      subst this
      exact hni (drOf_anc arr.toList S hcl j o' ho' (hcl j o' hS ho') i h1)
    · have : j = j' := by omega
      subst this
      subst h1
      exact hni hS

variable {t0 tf : TT} {S : Nat → Prop}

theorem tv_put {S : Nat → Prop} {i : Nat} {o : Oper} (ho : arr.toList[i]? = some o) {Γ Γ' : Gam} (le : Γ.le Γ') {a : Act} (htm : ∀ x, VR Γ (tvS arr t0 tf S x) (a.tmps.getD x undef)) {V : Value} {v : AV} (hV : VR Γ' v V) (hv : ∀ d, o.dst = some d → tget tf d = v)
    (hsz : ∀ d, o.dst = some d → d < a.tmps.size) {df : List Deferred} : ∀ x, VR Γ' (tvS arr t0 tf (fun j => S j ∨ j = i) x) ((({ a with defers := df } : Act).put o.dst V).tmps.getD x undef) := by
  intro x
  by_cases hd : o.dst = some x
  · have h1 : tvS arr t0 tf (fun j => S j ∨ j = i) x = tget tf x := if_pos ⟨i, o, .inr rfl, ho, hd⟩
    rw [h1, hv x hd, hd]
    have := hsz x hd
    simpa [Act.put, this] using hV
  · have h1 : tvS arr t0 tf (fun j => S j ∨ j = i) x = tvS arr t0 tf S x := by
      unfold tvS
      by_cases hc : ∃ (j : Nat) (o : Oper), S j ∧ arr.toList[j]? = some o ∧ o.dst = some x
      · obtain ⟨j, o', h1, h2, h3⟩ := hc
        rw [if_pos ⟨j, o', .inl h1, h2, h3⟩, if_pos ⟨j, o', h1, h2, h3⟩]
      · rw [if_neg hc, if_neg]
        rintro ⟨j, o', h1 | h1, h2, h3⟩
        · exact hc ⟨j, o', h1, h2, h3⟩
        · subst h1
          rw [ho] at h2; cases h2
          exact hd h3
    have h2 : (({ a with defers := df } : Act).put o.dst V).tmps.getD x undef = a.tmps.getD x undef := by
      cases hdd : o.dst with
      | none => rfl
      | some d =>
        have hne : d ≠ x := fun h => hd (by rw [hdd, h])
        simp [Act.put, Array.getElem?_setIfInBounds_ne hne]
    rw [h1, h2]
    exact (htm x).mono le

theorem closed_add {S : Nat → Prop} (hcl : Closed arr.toList S) {i : Nat} {o : Oper} (ho : arr.toList[i]? = some o) (hp : ∀ j, bitG (predM o) j = true → S j) : Closed arr.toList (fun j => S j ∨ j = i) := by
  intro j o' hj ho' e he hb
  rcases hj with hj | rfl
  · exact .inl (hcl j o' hj ho' e he hb)
  · rw [ho] at ho'; cases ho'
    exact .inl (hp e.on ((predM_ok o e.on).2 ⟨e, he, hb, rfl⟩))

/-- One step of a schedule. -/
theorem sched_step {kn : St} {hf : HH} {nf : Nat} {Df : DL} {base : World} {n0 : Nat} (hall : ∀ i, i < arr.toList.length → ∃ w o, OpF C ib q N inR id arr w i o)
    (hinj : ∀ i o d i' o' d' b, OpF C ib q N inR id arr false i o → OpF C ib q N inR id arr false i' o' → o.dst = some d → o'.dst = some d' → pnd C ib q id tf i o d = some b → pnd C ib q id tf i' o' d' = some b → i = i')
    (hlow : ∀ i o d b, OpF C ib q N inR id arr false i o → o.dst = some d → pnd C ib q id tf i o d = some b → n0 ≤ b)
    {b : Frame} {k : List Item} {cs : List Frame} (hgl : GlOK C base) (hs : Side q inR b cs)
    {prev : Option Nat} {he : HH} {ne : Nat} {D : DL} {M : Nat} {ws : List Nat} {Γ : Gam} {w : World} {a : Act} (I : SI P C ib q N inR id arr base t0 tf S Γ w a prev he ne D ws) (hn0 : n0 ≤ ne)
    (T : Tail P C ib q N inR id arr kn t0 tf hf nf Df prev he ne D M ws) (hN : ∀ i, bitG M i = true → NWF P C ib q N inR id arr t0 tf i he ne)
    {i : Nat} {o : Oper} (ho : arr.toList[i]? = some o) (hni : ¬ S i) (hp : ∀ j, bitG (predM o) j = true → S j) (rest : List Nat) :
    ∃ prev' he' ne' D' M' ws' Γ' w' a', Gam.ext n0 Γ Γ' ∧ SI P C ib q N inR id arr base t0 tf (fun j => S j ∨ j = i) Γ' w' a' prev' he' ne' D' ws' ∧ n0 ≤ ne' ∧
      Tail P C ib q N inR id arr kn t0 tf hf nf Df prev' he' ne' D' M' ws' ∧ (∀ i, bitG M' i = true → NWF P C ib q N inR id arr t0 tf i he' ne') ∧
      Steps P (lone (fat b a (.inRegion arr (i :: rest) :: k)) cs w) (lone (fat b a' (.inRegion arr rest :: k)) cs w') := by
  obtain ⟨hlt, _⟩ := List.getElem?_eq_some_iff.1 ho
  obtain ⟨wf, o', hop⟩ := hall i hlt
  have : o' = o := by have := hop.at_; rw [ho] at this; cases this; rfl
  subst this
  have hanc : ∀ p, bitG (Tr.get 0 (drOf arr.toList).anc i) p = true → S p := fun p hb =>
    drOf_anc arr.toList S I.cl i o' ho (mask_after.2 hp) p hb
  have hsees := sees_S (t0 := t0) (tf := tf) hall I.cl ho hop.uses hni hp
  have hwi : wrI C ib q id arr.toList i = wf := by
    unfold wrI
    rw [nthO_eq, ho]
    exact hop.isw
  have hdsz : ∀ d, o'.dst = some d → d < a.tmps.size := fun d hd => Nat.lt_of_lt_of_le (hop.dst d hd).2 I.sz
  cases wf with
  | false =>
    -- it stands in this phase
    have hMi : bitG M i = true := by
      have hprev : ∀ p, prev = some p → bitG (Tr.get 0 (drOf arr.toList).anc p) i = true → False := fun p hp' hb => by
        have hSp := I.prevS p hp'
        by_cases hpl : p < arr.toList.length
        · obtain ⟨w', op, hopp⟩ := hall p hpl
          exact hni (drOf_anc arr.toList S I.cl p op hopp.at_ (I.cl p op hSp hopp.at_) i hb)
        · have : Tr.get 0 (drOf arr.toList).anc p = 0 := by
            have e0 : ∀ j, Tr.get 0 (.nil : Tr Nat) j = 0 := fun j => Tr.getC_nil 0 (path j)
            rcases (ancs_ok (L := arr.toList) arr.toList 0 .nil (by simp) (fun S hS j o hj hp i hb => by rw [e0, bitG_zero] at hb; cases hb) (fun j => .inl (e0 j))).2 p with h | ⟨o, h⟩
            · exact h
            · exact absurd (List.getElem?_eq_some_iff.1 h).1 hpl
          rw [this, bitG_zero] at hb; cases hb
      cases T with
      | last hM hk =>
        rcases hM i hlt with h | h | ⟨p, h1, h2⟩
        · rw [hwi] at h; cases h
        · exact h
        · exact (hprev p h1 h2).elim
      | next hM hw hch hW hn hv hpp hgn hgh hN' tl =>
        rcases hM i hlt with h | h | h | ⟨p, h1, h2⟩
        · rw [hwi] at h; cases h
        · exact h
        · exact (I.notws _ (by simp) (hanc _ h)).elim
        · exact (hprev p h1 h2).elim
    obtain ⟨o2, d, hop2, hd, hstep⟩ := hN i hMi
    have : o2 = o' := by have := hop2.at_; rw [ho] at this; cases this; rfl
    subst this
    obtain ⟨Γ', w', V, hΓ, R', hV, hst⟩ := hstep base Γ w b k cs a rest hgl hs I.rel (fun x hx => by rw [hsees x hx]; exact I.tm x) (fun bb hb => I.pend i o2 d bb hni hop2 hd hb)
    have hext : Gam.ext n0 Γ Γ' := by
      rcases hΓ with rfl | ⟨bb, g, hb, rfl⟩
      · exact Gam.ext_refl _ _
      · exact Gam.ext_put (I.pend i o2 d bb hni hop2 hd hb) (hlow i o2 d bb hop2 hd hb)
    refine ⟨prev, he, ne, D, M, ws, Γ', w', a.put o2.dst V, hext, ⟨closed_add I.cl ho hp, R', by rw [put_defers]; exact I.df.mono hext.1, by rw [put_size]; exact I.sz, ?_, ?_, ?_, fun p hp' => .inl (I.prevS p hp'), ?_⟩, hn0, T, hN, .one hst⟩
    · exact tv_put (df := a.defers) ho hext.1 I.tm hV (fun d' hd' => by rw [hd] at hd'; cases hd'; rfl) hdsz
    · intro i2 o3 d3 bb hni2 hop3 hd3 hb3
      have hn2 : ¬ S i2 := fun h => hni2 (.inl h)
      have hne : i2 ≠ i := fun h => hni2 (.inr h)
      have h0 := I.pend i2 o3 d3 bb hn2 hop3 hd3 hb3
      rcases hΓ with rfl | ⟨b2, g, hb, rfl⟩
      · exact h0
      · rw [Gam.put_ne _ _ (fun h => hne (by subst h; exact hinj _ _ _ _ _ _ _ hop3 hop2 hd3 hd hb3 hb))]
        exact h0
    · intro w2 hw2 hS2
      rcases hS2 with h | rfl
      · exact I.notws w2 hw2 h
      · -- a writer of the tail is none of these
        have key : ∀ {prev : Option Nat} {he : HH} {ne : Nat} {D : DL} {M : Nat} {ws : List Nat}, Tail P C ib q N inR id arr kn t0 tf hf nf Df prev he ne D M ws → w2 ∈ ws → False := by
          intro prev he ne D M ws T hm
          induction T with
          | last => cases hm
          | next _ hw _ _ _ _ _ _ _ _ _ ih =>
            rcases List.mem_cons.1 hm with rfl | hm
            · have h1 := hw.at_
              rw [ho] at h1; cases h1
              have := hw.isw
              rw [hop2.isw] at this; cases this
            · exact ih hm
        exact key T hw2
    · intro j hj hw
      rcases I.wrs j hj hw with h | h
      · exact .inl (.inl h)
      · exact .inr h
  | true =>
    have hiws : i ∈ ws := (I.wrs i hlt hwi).resolve_left hni
    cases T with
    | last hM hk => cases hiws
    | @next _ _ _ _ _ w1 o1 v h0 n1 D' he' ne' M' ws' hM hw hch hW hn hv hpp hgn hgh hN' tl =>
      have hi : i = w1 := by
        rcases List.mem_cons.1 hiws with h | h
        · exact h
        · obtain ⟨p, hp1, hb⟩ := tl.chain w1 rfl i h
          have := hanc p hb
          exact (I.notws p (by rcases hp1 with rfl | hp1 <;> simp [*]) this).elim
      subst hi
      have : o1 = o' := by have := hw.at_; rw [ho] at this; cases this; rfl
      subst this
      obtain ⟨Γ', w', V, df, le, R', hV, hD', hst⟩ := hW base Γ w b k cs a rest hgl hs I.rel I.df (fun x hx => by rw [hsees x hx]; exact I.tm x)
      have hext : Gam.ext n0 Γ Γ' := ⟨le.1, fun bb hb => le.2 bb (by omega)⟩
      refine ⟨some i, he', ne', D', M', ws', Γ', w', _, hext, ⟨closed_add I.cl ho hp, R'.grow hgn hgh, by rw [put_defers]; exact hD', by rw [put_size]; exact I.sz, ?_, ?_, ?_, fun p hp' => by cases hp'; exact .inr rfl, ?_⟩, by omega, tl, hN', hst⟩
      · exact tv_put ho hext.1 I.tm hV hv hdsz
      · intro i2 o3 d3 bb hni2 hop3 hd3 hb3
        have hn2 : ¬ S i2 := fun h => hni2 (.inl h)
        rcases hpp i2 o3 d3 bb hop3 hd3 hb3 with h | h
        · rw [le.2 bb h]; exact I.pend i2 o3 d3 bb hn2 hop3 hd3 hb3
        · exact R'.fresh bb h
      · intro w2 hw2 hS2
        rcases hS2 with h | rfl
        · exact I.notws w2 (by simp [hw2]) h
        · -- the chain has no ring
          obtain ⟨p, hp1, hb⟩ := tl.chain w2 rfl w2 hw2
          exact I.notws p (by rcases hp1 with rfl | hp1 <;> simp [*]) (hanc p hb)
      · intro j hj hwj
        rcases I.wrs j hj hwj with h | h
        · exact .inl (.inl h)
        · rcases List.mem_cons.1 h with rfl | h
          · exact .inl (.inr rfl)
          · exact .inr h
end
end Go.Ae
