/- What is answered here, run in the evaluator: any status, any code. -/
import Derived.Test.YtjmammdlefbemaaGreatDoorCxD
set_option maxRecDepth 100000
set_option maxHeartbeats 4000000
namespace Go.Ae.S
open Go Go.Ae
noncomputable abbrev run5 (s : Int) (grpc begun : Bool) (c : Int) : Nat := cy C ib ovW 100 false 5 [.int .i16 s, .bool grpc, .bool begun, .int .u32 c] .nil 0 (chkBool true)
theorem code_other (s : Int) (hs : s = 400 ∨ s = 404 ∨ s = 502 ∨ s = 503 ∨ s = 504) (grpc begun : Bool) (c : Nat) (h7 : c + 1 ≠ 7) (h8 : c + 1 ≠ 8) (h11 : c + 1 ≠ 11) : run5 s grpc begun (.ofNat (c + 1)) = 0 := by
  have e7 : Int.ofNat (c + 1) ≠ 7 := fun h => by have h : ((c + 1 : Nat) : Int) = 7 := h; omega
  have e8 : Int.ofNat (c + 1) ≠ 8 := fun h => by have h : ((c + 1 : Nat) : Int) = 8 := h; omega
  have e11 : Int.ofNat (c + 1) ≠ 11 := fun h => by have h : ((c + 1 : Nat) : Int) = 11 := h; omega
  have e0 : Int.ofNat (c + 1) ≠ 0 := fun h => by have h : ((c + 1 : Nat) : Int) = 0 := h; omega
  rcases hs with rfl | rfl | rfl | rfl | rfl <;> cases grpc <;> cases begun <;> (conv => lhs; whnf) <;> repeat ((first | refine brNe ?_ ?_ | refine brNot ?_ ?_); (first | exact e7 | exact e8 | exact e11 | exact e0); conv => lhs; whnf)
theorem code_known (s : Int) (hs : s = 400 ∨ s = 404 ∨ s = 502 ∨ s = 503 ∨ s = 504) (grpc begun : Bool) (c : Int) (hc : c = 0 ∨ c = 7 ∨ c = 8 ∨ c = 11) : run5 s grpc begun c = 0 := by
  rcases hs with rfl | rfl | rfl | rfl | rfl <;> rcases hc with rfl | rfl | rfl | rfl <;> cases grpc <;> cases begun <;> exact Nat.eq_of_beq_eq_true (by kernel_rfl)
theorem wrap64_small (s : Int) (hw : -32768 ≤ s ∧ s ≤ 32767) : wrapI .i64 s = s :=
  wrapI_in (wrap_in (by simp [IntKind.min, IntKind.signed, IntKind.bits]; omega) (by simp [IntKind.max, IntKind.signed, IntKind.bits]; omega))
theorem stat_known (s : Int) (hs : s ≠ 400 ∧ s ≠ 404 ∧ s ≠ 502 ∧ s ≠ 503 ∧ s ≠ 504) (hw : -32768 ≤ s ∧ s ≤ 32767) (grpc begun : Bool) (c : Int) (hc : c = 0 ∨ c = 7 ∨ c = 8 ∨ c = 11) : run5 s grpc begun c = 0 := by
  obtain ⟨e1, e2, e3, e4, e5⟩ := hs
  have hx := wrap64_small s hw
  have g1 : (400 : Int) ≠ s := Ne.symm e1
  have g2 : (404 : Int) ≠ s := Ne.symm e2
  have g3 : (502 : Int) ≠ s := Ne.symm e3
  have g4 : (503 : Int) ≠ s := Ne.symm e4
  have g5 : (504 : Int) ≠ s := Ne.symm e5
  clear hw
  rcases s with (_ | m) | (_ | m) <;> rcases hc with rfl | rfl | rfl | rfl <;> cases grpc <;> cases begun <;> (conv => lhs; whnf) <;> repeat ((first | refine stepI hx ?_ | ((first | refine brNe ?_ ?_ | refine brNot ?_ ?_); (first | exact g1 | exact g2 | exact g3 | exact g4 | exact g5 | exact e1 | exact e2 | exact e3 | exact e4 | exact e5))); conv => lhs; whnf)
theorem both_other (s : Int) (hs : s ≠ 400 ∧ s ≠ 404 ∧ s ≠ 502 ∧ s ≠ 503 ∧ s ≠ 504) (hw : -32768 ≤ s ∧ s ≤ 32767) (grpc begun : Bool) (c : Nat) (h7 : c + 1 ≠ 7) (h8 : c + 1 ≠ 8) (h11 : c + 1 ≠ 11) : run5 s grpc begun (.ofNat (c + 1)) = 0 := by
  obtain ⟨e1, e2, e3, e4, e5⟩ := hs
  have hx := wrap64_small s hw
  have g1 : (400 : Int) ≠ s := Ne.symm e1
  have g2 : (404 : Int) ≠ s := Ne.symm e2
  have g3 : (502 : Int) ≠ s := Ne.symm e3
  have g4 : (503 : Int) ≠ s := Ne.symm e4
  have g5 : (504 : Int) ≠ s := Ne.symm e5
  have e7 : Int.ofNat (c + 1) ≠ 7 := fun h => by have h : ((c + 1 : Nat) : Int) = 7 := h; omega
  have e8 : Int.ofNat (c + 1) ≠ 8 := fun h => by have h : ((c + 1 : Nat) : Int) = 8 := h; omega
  have e11 : Int.ofNat (c + 1) ≠ 11 := fun h => by have h : ((c + 1 : Nat) : Int) = 11 := h; omega
  have e0 : Int.ofNat (c + 1) ≠ 0 := fun h => by have h : ((c + 1 : Nat) : Int) = 0 := h; omega
  clear hw
  rcases s with (_ | m) | (_ | m) <;> cases grpc <;> cases begun <;> (conv => lhs; whnf) <;> repeat ((first | refine stepI hx ?_ | ((first | refine brNe ?_ ?_ | refine brNot ?_ ?_); (first | exact g1 | exact g2 | exact g3 | exact g4 | exact g5 | exact e1 | exact e2 | exact e3 | exact e4 | exact e5 | exact e7 | exact e8 | exact e11 | exact e0))); conv => lhs; whnf)
theorem run5_ok (s : Int) (hw : -32768 ≤ s ∧ s ≤ 32767) (grpc begun : Bool) (c : Int) (hc : 0 ≤ c) : run5 s grpc begun c = 0 := by
  by_cases hs : s = 400 ∨ s = 404 ∨ s = 502 ∨ s = 503 ∨ s = 504
  · by_cases hk : c = 0 ∨ c = 7 ∨ c = 8 ∨ c = 11
    · exact code_known s hs grpc begun c hk
    · obtain ⟨m, rfl⟩ : ∃ m : Nat, c = Int.ofNat (m + 1) := ⟨(c - 1).toNat, by show c = (((c - 1).toNat + 1 : Nat) : Int); omega⟩
      have hk : ¬ (((m + 1 : Nat) : Int) = 0 ∨ ((m + 1 : Nat) : Int) = 7 ∨ ((m + 1 : Nat) : Int) = 8 ∨ ((m + 1 : Nat) : Int) = 11) := hk
      exact code_other s hs grpc begun m (by omega) (by omega) (by omega)
  · have hs : s ≠ 400 ∧ s ≠ 404 ∧ s ≠ 502 ∧ s ≠ 503 ∧ s ≠ 504 := by omega
    by_cases hk : c = 0 ∨ c = 7 ∨ c = 8 ∨ c = 11
    · exact stat_known s hs hw grpc begun c hk
    · obtain ⟨m, rfl⟩ : ∃ m : Nat, c = Int.ofNat (m + 1) := ⟨(c - 1).toNat, by show c = (((c - 1).toNat + 1 : Nat) : Int); omega⟩
      have hk : ¬ (((m + 1 : Nat) : Int) = 0 ∨ ((m + 1 : Nat) : Int) = 7 ∨ ((m + 1 : Nat) : Int) = 8 ∨ ((m + 1 : Nat) : Int) = 11) := hk
      exact both_other s hs hw grpc begun m (by omega) (by omega) (by omega)
end Go.Ae.S
