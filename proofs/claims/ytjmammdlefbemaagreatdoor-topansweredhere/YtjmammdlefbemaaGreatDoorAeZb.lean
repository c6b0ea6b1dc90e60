/- The abstract evaluator: drawn regions, sixth part: the whole plan. -/
import Derived.Test.YtjmammdlefbemaaGreatDoorAeZa
set_option linter.unusedVariables false
set_option linter.unusedSectionVars false
namespace Go.Ae

section
variable {P : Program} {C : Ctx} (H : CtxOK P C) {ib : Nat → Bool} (hib : ∀ f, ib f = true → IdxOK P f) {q N : Nat} {inR : Bool} {id : Nat} {arr : Array Oper} {CY : Bool → CallT} (hcy : CYOK P C CY)

theorem covers_ok {M : Nat} {next prev : Option Nat} (h : covers C ib q id (drOf arr.toList) M next prev = true) : ∀ i, i < arr.toList.length → wrI C ib q id arr.toList i = true ∨ bitG M i = true ∨
    (∃ w, next = some w ∧ bitG (Tr.get 0 (drOf arr.toList).anc i) w = true) ∨ ∃ p, prev = some p ∧ bitG (Tr.get 0 (drOf arr.toList).anc p) i = true := by
  intro i hi
  unfold covers at h
  rw [List.all_eq_true] at h
  have := h i ((rangeL_mem _ _).2 hi)
  simp only [Bool.or_eq_true] at this
  rcases this with ((h1 | h1) | h1) | h1
  · exact .inl h1
  · exact .inr (.inl h1)
  · cases next with
    | none => cases h1
    | some w => exact .inr (.inr (.inl ⟨w, rfl, h1⟩))
  · cases prev with
    | none => cases h1
    | some p => exact .inr (.inr (.inr ⟨p, rfl, h1⟩))

include H hib hcy in
theorem phs_good {kn : St} {t0 : TT} {last : Ph} : ∀ (phs : List (Ph × Nat)) {R : Nat} {t : TT} {h : HH} {n : Nat} {D : DL} {prev : Option Nat},
    (phsD C ib q inR id (drOf arr.toList) last phs).run CY kn t h n D = 0 → chkPhs C ib q N inR id (drOf arr.toList) last phs R prev = true → FI C ib q N inR id arr t0 t R n →
    Good P C ib q N inR id arr kn t0 t h n D R 0 prev
  | [], R, t, h, n, D, prev, hk, hc, F => by
    refine its_good H hib last hk hc F ?_
    intro t' h' n' R' M' hk hc F'
    have hc : (covers C ib q id (drOf arr.toList) M' none prev && (rangeL arr.toList.length).all fun i => bitG R' i) = true := hc
    simp only [Bool.and_eq_true, List.all_eq_true] at hc
    obtain ⟨hcov, hall⟩ := hc
    have full : ∀ {i : Nat} {o : Oper} {w}, OpF C ib q N inR id arr w i o → bitG R' i = true := fun {i o w} hop => by
      obtain ⟨hlt, _⟩ := List.getElem?_eq_some_iff.1 hop.at_
      exact hall i ((rangeL_mem _ _).2 hlt)
    refine ⟨t', h', n', M', [], h', n', D, hle_refl _, Nat.le_refl _, fun _ _ => rfl, fun _ _ => rfl, ⟨?_, ?_⟩, fun i hi => .inl hi, .last ?_ hk, ?_, fun i hi _ => .inl (hall i ((rangeL_mem _ _).2 hi))⟩
    · intro i o d b hi hop _ _
      rw [full hop] at hi; cases hi
    · intro i o d i' o' d' b hi _ hop _ _ _ _ _
      rw [full hop] at hi; cases hi
    · intro i hi
      rcases covers_ok hcov i hi with h1 | h1 | ⟨w, h1, _⟩ | h1
      · exact .inl h1
      · exact .inr (.inl h1)
      · cases h1
      · exact .inr (.inr h1)
    · intro x hx
      exact F'.out x (fun ⟨j, o, _, ho, hd⟩ => hx j o ho hd)
  | (its, w) :: phs, R, t, h, n, D, prev, hk, hc, F => by
    refine its_good H hib its (nx := wD C ib q inR id (drOf arr.toList) w (phsD C ib q inR id (drOf arr.toList) last phs)) hk hc F ?_
    intro t' h' n' R' M' hk hc F'
    have hc : (covers C ib q id (drOf arr.toList) M' (some w) prev && chained (drOf arr.toList) w prev &&
      mayRun C ib q N inR id (drOf arr.toList) true w R' && chkPhs C ib q N inR id (drOf arr.toList) last phs (Nat.lor R' (bit w)) (some w)) = true := hc
    simp only [Bool.and_eq_true] at hc
    obtain ⟨⟨⟨hcov, hchain⟩, hmay⟩, hc⟩ := hc
    obtain ⟨o, hop, hpre, hni, hur⟩ := mayRun_ok hmay
    obtain ⟨gd, hgd⟩ := hop.gd
    have ho : arr[w]? = some o := by have := hop.at_; simpa using this
    have hit : wD C ib q inR id (drOf arr.toList) w (phsD C ib q inR id (drOf arr.toList) last phs) =
        opGd (ecode q id w) inR (restr (o.looksAt arr)) o.dst gd (phsD C ib q inR id (drOf arr.toList) last phs) (cop C ib (ecode q id w) o) := by
      unfold wD
      have e1 : nthO (drOf arr.toList).ops w = some o := by rw [nthO_eq]; exact hop.at_
      have e2 : gdOf inR (drOf arr.toList).ops o = some gd := hgd
      rw [e1]
      simp only [e2]
      rfl
    rw [hit] at hk
    obtain ⟨v, h2, n2, D2, hk, hn2, hstep⟩ := opGd_ok (ecode_ne q id w) hcy (cop_ok H hib (ecode_ne q id w) o) hgd hk
    have F2 : FI C ib q N inR id arr t0 (putD o.dst v t') (Nat.lor R' (bit w)) n2 := F'.run hop hni hpre hn2 (fun _ _ hf => by cases hf)
    obtain ⟨tf, he, ne, Me, ws, hfin, nfin, Dfin, g1, g2, g3, g4, g5, g6, g7, g8, g9⟩ := phs_good phs hk hc F2
    have hf : ∀ x, isDst arr R' x → tget tf x = tget t' x := fun x hx => by
      rw [g4 x ((isDst_or hop.at_).2 (.inl hx))]
      cases hd : o.dst with
      | none => rfl
      | some d =>
        show tget (tset t' d v) x = _
        rw [tget_tset, if_neg (isDst_ne F' hop hni hd hx)]
    have notin : ∀ {j : Nat} {o' : Oper}, OpF C ib q N inR id arr false j o' → bitG R' j = false → bitG (Nat.lor R' (bit w)) j = false := fun {j o'} hj hR => by
      rw [bitG_lor, hR, Bool.false_or]
      cases hb : bitG (bit w) j with
      | false => rfl
      | true =>
        have e := (bitG_bit w j).1 hb
        subst e
        have h1 := hj.at_
        rw [hop.at_] at h1
        cases h1
        have := hop.isw
        rw [hj.isw] at this
        cases this
    have g9' : ∀ j, j < arr.toList.length → wrI C ib q id arr.toList j = true → bitG R' j = true ∨ j ∈ w :: ws := fun j hj hw => by
      rcases g9 j hj hw with h1 | h1
      · rw [bitG_lor, Bool.or_eq_true, bitG_bit] at h1
        rcases h1 with h1 | rfl
        · exact .inl h1
        · exact .inr (by simp)
      · exact .inr (by simp [h1])
    refine ⟨tf, h', n', M', w :: ws, hfin, nfin, Dfin, hle_refl _, Nat.le_refl _, fun _ _ => rfl, hf, ⟨?_, ?_⟩, fun i hi => .inl hi, ?_, g8, g9'⟩
    · intro i o' d b hi hop' hd hb
      exact Nat.le_trans hn2 (g5.1 i o' d b (notin hop' hi) hop' hd hb)
    · intro i o1 d1 i' o2 d2 b hi hi' h1 h2 hd1 hd2 hb1 hb2
      exact g5.2 i o1 d1 i' o2 d2 b (notin h1 hi) (notin h2 hi') h1 h2 hd1 hd2 hb1 hb2
    · refine .next (w := w) (o := o) (v := v) (h0 := h2) (n0 := n2) (D' := D2) (he' := he) (ne' := ne) (M' := Me) ?_ hop ?_ ?_ hn2 ?_ ?_ g2 g3 ?_ g7
      · intro i hi
        rcases covers_ok hcov i hi with h1 | h1 | ⟨w', h1, h3⟩ | h1
        · exact .inl h1
        · exact .inr (.inl h1)
        · cases h1; exact .inr (.inr (.inl h3))
        · exact .inr (.inr (.inr h1))
      · intro p hp
        unfold chained at hchain
        rw [hp] at hchain
        exact hchain
      · intro base Γ w' b k cs a rest hgl hs R1 hD hu
        have hsee := F'.sees (t0 := t0) (tf := tf) hur hpre hf
        have hu' : ∀ x ∈ o.looksAt arr, VR Γ (tget t' x) (a.tmps.getD x undef) := fun x hx => by rw [← hsee x hx]; exact hu x hx
        exact hstep base Γ w' b k cs a { a with tmps := seen (o.looksAt arr) a.tmps } arr w rest q rfl hgl hs R1 hD (relT_seen hu') (exec_seen (gdOf_sel hgd) a)
          (fun d want hg => by
            subst hg
            show (seen (o.looksAt arr) a.tmps).getD d undef = _
            rw [seen_getD, if_pos (gd_seen hgd)]) ho rfl
      · intro d hd
        rw [g4 d ((isDst_or hop.at_).2 (.inr hd)), hd]
        show tget (tset t' d v) d = v
        rw [tget_tset, if_pos rfl]
      · intro i o' d b hop' hd hb
        cases hR : bitG R' i with
        | true =>
          refine .inl (F'.pend i o' d b hR hop' hd ?_)
          have : tget tf d = tget t' d := hf d ⟨i, o', hR, hop'.at_, hd⟩
          unfold pnd at hb ⊢
          rw [← this]
          exact hb
        | false => exact .inr (g5.1 i o' d b (notin hop' hR) hop' hd hb)
      · intro i hi
        rcases g6 i hi with h1 | h1
        · rw [bitG_zero] at h1; cases h1
        · exact h1
end
end Go.Ae
