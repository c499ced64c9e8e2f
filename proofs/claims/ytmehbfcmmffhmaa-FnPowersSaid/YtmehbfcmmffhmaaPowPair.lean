/-
  Powers of e at eighths: products are powers of sums, nearly. Over no program.
-/
import Derived.Test.YtmehbfcmmffhmaaPowLaw
namespace Go.Proofs.Fl
open Go Ieee Go.RowKit
structure PairAt (a b c : Nat) : Prop where
  nm : nan .f64 (fop .mul .f64 (fwide a) (fwide b)) = false
  ng : nan .f64 (gapF (fop .mul .f64 (fwide a) (fwide b)) (fwide c)) = false
  nt : nan .f64 (fop .mul .f64 C001 (fwide c)) = false
  gap : (FloatKind.f64.format.order (gapF (fop .mul .f64 (fwide a) (fwide b)) (fwide c)) (fop .mul .f64 C001 (fwide c)) == some Ordering.lt) = true
def pairB (a b c : Nat) : Bool :=
  !nan .f64 (fop .mul .f64 (fwide a) (fwide b)) && !nan .f64 (gapF (fop .mul .f64 (fwide a) (fwide b)) (fwide c)) && !nan .f64 (fop .mul .f64 C001 (fwide c)) &&
  (FloatKind.f64.format.order (gapF (fop .mul .f64 (fwide a) (fwide b)) (fwide c)) (fop .mul .f64 C001 (fwide c)) == some Ordering.lt)
theorem pair_all : (List.range 65).all (fun i => (List.range 65).all fun j => pairB (eT (i + 32)) (eT (j + 32)) (eT (i + j))) = true := by decide +kernel
theorem pair_at {i j : Nat} (hi : i < 65) (hj : j < 65) : PairAt (eT (i + 32)) (eT (j + 32)) (eT (i + j)) := by
  have := List.all_eq_true.1 (List.all_eq_true.1 pair_all i (List.mem_range.2 hi)) j (List.mem_range.2 hj)
  unfold pairB at this
  simp only [Bool.and_eq_true, Bool.not_eq_true'] at this
  obtain ⟨⟨⟨h1, h2⟩, h3⟩, h4⟩ := this
  exact ⟨h1, h2, h3, h4⟩
end Go.Proofs.Fl
