/- The abstract evaluator: drawn regions, fifth part: a plan that was run and checked is good. -/
import Derived.Test.YtjmammdlefbemaaGreatDoorAeZ
set_option linter.unusedVariables false
set_option linter.unusedSectionVars false
namespace Go.Ae

section
variable {P : Program} {C : Ctx} (H : CtxOK P C) {ib : Nat → Bool} (hib : ∀ f, ib f = true → IdxOK P f) {q N : Nat} {inR : Bool} {id : Nat} {arr : Array Oper} {CY : Bool → CallT} (hcy : CYOK P C CY)

theorem isDst_ne {t0 t : TT} {R n i d x : Nat} {o : Oper} {w : Bool} (F : FI C ib q N inR id arr t0 t R n) (hop : OpF C ib q N inR id arr w i o) (hni : bitG R i = false) (hd : o.dst = some d) (hx : isDst arr R x) : d ≠ x := by
  rintro rfl
  obtain ⟨j, o', hr, ho', hd'⟩ := hx
  obtain ⟨w', o'', hop'⟩ := F.ops j hr
  have : o'' = o' := by have := hop'.at_; rw [ho'] at this; cases this; rfl
  subst this
  have := hop.dst_inj hop' hd hd'
  subst this
  rw [hr] at hni; cases hni

include H hib in
theorem its_good {kn : St} {t0 : TT} {D : DL} {prev : Option Nat} {nx : BX OT} {kk : Nat → Nat → Bool} : ∀ (its : Ph) {R M : Nat} {t : TT} {h : HH} {n : Nat},
    (itsD C ib q inR id (drOf arr.toList) its nx).run CY kn t h n D = 0 → chkIts C ib q N inR id (drOf arr.toList) its R M kk = true → FI C ib q N inR id arr t0 t R n →
    (∀ t' h' n' R' M', nx.run CY kn t' h' n' D = 0 → kk R' M' = true → FI C ib q N inR id arr t0 t' R' n' → Good P C ib q N inR id arr kn t0 t' h' n' D R' M' prev) →
    Good P C ib q N inR id arr kn t0 t h n D R M prev
  | [], R, M, t, h, n, hk, hc, F, hnx => hnx t h n R M hk hc F
  | (true, i) :: its, R, M, t, h, n, hk, hc, F, hnx => by
    have hc : (mayRun C ib q N inR id (drOf arr.toList) false i R && chkIts C ib q N inR id (drOf arr.toList) its (Nat.lor R (bit i)) (Nat.lor M (bit i)) kk) = true := hc
    simp only [Bool.and_eq_true] at hc
    obtain ⟨o, hop, hpre, hni, hur⟩ := mayRun_ok hc.1
    obtain ⟨gd, hgd⟩ := hop.gd
    obtain ⟨d, hd⟩ := hop.some_ rfl
    have ho : arr[i]? = some o := by have := hop.at_; simpa using this
    have hk : (itD C ib q inR id (drOf arr.toList) true i (itsD C ib q inR id (drOf arr.toList) its nx)).run CY kn t h n D = 0 := hk
    have hit : itD C ib q inR id (drOf arr.toList) true i (itsD C ib q inR id (drOf arr.toList) its nx) =
        opNw (ecode q id i) (restr (o.looksAt arr)) d gd (itsD C ib q inR id (drOf arr.toList) its nx) (cop C ib (ecode q id i) o) := by
      unfold itD
      have e1 : nthO (drOf arr.toList).ops i = some o := by rw [nthO_eq]; exact hop.at_
      have e2 : gdOf inR (drOf arr.toList).ops o = some gd := hgd
      rw [e1]
      simp only [e2, hd]
      rfl
    rw [hit] at hk
    obtain ⟨v, h', n', hk, hn, hle', hsame, hpd, hstep⟩ := opNw_ok (q := q) ho (cop_ok H hib (ecode_ne q id i) o) (gdOf_sel hgd) hgd (ecode_ne q id i) hd hk
    have F' : FI C ib q N inR id arr t0 (putD o.dst v t) (Nat.lor R (bit i)) n' := F.run hop hni hpre hn (fun d' b _ _ hb => by
      obtain ⟨h1, h2⟩ := hpd b hb; omega)
    have hput : putD o.dst v t = tset t d v := by rw [hd]; rfl
    rw [hput] at F'
    obtain ⟨tf, he, ne, Me, ws, hfin, nfin, Dfin, g1, g2, g3, g4, g5, g6, g7, g8, g9⟩ := its_good its hk hc.2 F' hnx
    have htfd : tget tf d = v := by
      rw [g4 d ((isDst_or hop.at_).2 (.inr hd)), tget_tset, if_pos rfl]
    have hf : ∀ x, isDst arr R x → tget tf x = tget t x := fun x hx => by
      rw [g4 x ((isDst_or hop.at_).2 (.inl hx)), tget_tset, if_neg (isDst_ne F hop hni hd hx)]
    have hpnd : ∀ b, pnd C ib q id tf i o d = some b → b = n ∧ n' = n + 1 := fun b hb => by
      unfold pnd at hb
      rw [htfd] at hb
      exact hpd b hb
    have same : ∀ {j : Nat} {o' : Oper} {w}, OpF C ib q N inR id arr w j o' → j = i → o' = o := fun {j o' w} hj e => by
      subst e
      have h1 := hj.at_
      rw [hop.at_] at h1
      cases h1; rfl
    have notin : ∀ j, bitG R j = false → j ≠ i → bitG (Nat.lor R (bit i)) j = false := fun j hj hji => by
      rw [bitG_lor, hj, Bool.false_or]
      cases hb : bitG (bit i) j with
      | false => rfl
      | true => exact absurd ((bitG_bit i j).1 hb).symm hji
    have g9' : ∀ j, j < arr.toList.length → wrI C ib q id arr.toList j = true → bitG R j = true ∨ j ∈ ws := fun j hj hw => by
      rcases g9 j hj hw with h1 | h1
      · rw [bitG_lor, Bool.or_eq_true, bitG_bit] at h1
        rcases h1 with h1 | rfl
        · exact .inl h1
        · exfalso
          unfold wrI at hw
          rw [nthO_eq, hop.at_] at hw
          have h2 : wr C ib q id o = true := hw
          rw [hop.isw] at h2
          cases h2
      · exact .inr h1
    refine ⟨tf, he, ne, Me, ws, hfin, nfin, Dfin, hle_trans hle' g1, Nat.le_trans hn g2, fun b hb => by rw [g3 b (by omega), hsame b hb], hf, ⟨?_, ?_⟩, ?_, g7, g8, g9'⟩
    · intro j o' d' b hj hj' hd' hb
      by_cases hji : j = i
      · have := same hj' hji
        subst this; subst hji
        rw [hd] at hd'; cases hd'
        have := (hpnd b hb).1
        omega
      · have := g5.1 j o' d' b (notin j hj hji) hj' hd' hb
        omega
    · intro j o1 d1 j' o2 d2 b hj hj' hf1 hf2 hd1 hd2 hb1 hb2
      by_cases e1 : j = i
      · by_cases e2 : j' = i
        · rw [e1, e2]
        · have := same hf1 e1
          subst this; subst e1
          rw [hd] at hd1; cases hd1
          have h1 := hpnd b hb1
          have h2 := g5.1 j' o2 d2 b (notin j' hj' e2) hf2 hd2 hb2
          omega
      · by_cases e2 : j' = i
        · have := same hf2 e2
          subst this; subst e2
          rw [hd] at hd2; cases hd2
          have h1 := hpnd b hb2
          have h2 := g5.1 j o1 d1 b (notin j hj e1) hf1 hd1 hb1
          omega
        · exact g5.2 j o1 d1 j' o2 d2 b (notin j hj e1) (notin j' hj' e2) hf1 hf2 hd1 hd2 hb1 hb2
    · intro j hj
      rcases g6 j hj with h1 | h1
      · rw [bitG_lor, Bool.or_eq_true, bitG_bit] at h1
        rcases h1 with h1 | rfl
        · exact .inl h1
        · refine .inr ⟨o, d, hop, hd, ?_⟩
          have := hstep he ne g1 g2
          unfold pnd
          rw [htfd]
          exact this.congr (F.sees hur hpre hf)
      · exact .inr h1
  | (false, i) :: its, R, M, t, h, n, hk, hc, F, hnx => by
    have hc : (bitG R i && !wrI C ib q id (drOf arr.toList).ops i && (match nthO (drOf arr.toList).ops i with | some o => usesOK (drOf arr.toList) i R o | none => false) && chkIts C ib q N inR id (drOf arr.toList) its R (Nat.lor M (bit i)) kk) = true := hc
    simp only [Bool.and_eq_true, Bool.not_eq_true'] at hc
    obtain ⟨⟨⟨hR, hw⟩, hu⟩, hc⟩ := hc
    obtain ⟨w, o, hop⟩ := F.ops i hR
    have e1 : nthO (drOf arr.toList).ops i = some o := by rw [nthO_eq]; exact hop.at_
    have hwf : w = false := by
      unfold wrI at hw
      rw [e1] at hw
      rw [← hop.isw]; exact hw
    subst hwf
    rw [e1] at hu
    obtain ⟨_, hur⟩ := usesOK_ok hu
    obtain ⟨gd, hgd⟩ := hop.gd
    obtain ⟨d, hd⟩ := hop.some_ rfl
    have ho : arr[i]? = some o := by have := hop.at_; simpa using this
    have hk : (itD C ib q inR id (drOf arr.toList) false i (itsD C ib q inR id (drOf arr.toList) its nx)).run CY kn t h n D = 0 := hk
    have hit : itD C ib q inR id (drOf arr.toList) false i (itsD C ib q inR id (drOf arr.toList) its nx) =
        opChk (ecode q id i) (restr (o.looksAt arr)) d gd (itsD C ib q inR id (drOf arr.toList) its nx) (cop C ib (ecode q id i) o) := by
      unfold itD
      have e2 : gdOf inR (drOf arr.toList).ops o = some gd := hgd
      rw [e1]
      simp only [e2, hd]
      rfl
    rw [hit] at hk
    obtain ⟨hk, hstep⟩ := opChk_ok (q := q) ho (cop_ok H hib (ecode_ne q id i) o) (gdOf_sel hgd) hgd (ecode_ne q id i) hd hk
    obtain ⟨tf, he, ne, Me, ws, hfin, nfin, Dfin, g1, g2, g3, g4, g5, g6, g7, g8, g9⟩ := its_good its hk hc F hnx
    refine ⟨tf, he, ne, Me, ws, hfin, nfin, Dfin, g1, g2, g3, g4, g5, ?_, g7, g8, g9⟩
    intro j hj
    rcases g6 j hj with h1 | h1
    · rw [bitG_lor, Bool.or_eq_true, bitG_bit] at h1
      rcases h1 with h1 | rfl
      · exact .inl h1
      · refine .inr ⟨o, d, hop, hd, ?_⟩
        have htfd : tget tf d = tget t d := g4 d ⟨i, o, hR, hop.at_, hd⟩
        have := hstep he ne g1 g2
        unfold pnd
        rw [htfd]
        exact this.congr (F.sees hur (fun k hk => F.closed i o hR hop.at_ k hk) g4)
    · exact .inr h1
end
end Go.Ae
