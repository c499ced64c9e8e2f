/-
  The count of the words that a plain machine reads: the plain law.
-/
import Derived.Test.YtlfmcdobiojdlaaRun
import Derived.Test.YtlfmcdobiojdlaaOwnI
namespace Go.Proofs.Ytlfmcdobiojdlaa.Num
open Go.RowKit Go.Proofs.Fl
set_option linter.unusedVariables false
set_option linter.unusedSimpArgs false
def addTo (zs : List Int) (to : Nat) (v : Int) : List Int := zs.set to (wrap64 (zs.getD to 0 + v))
/-- a state's letters, one by one -/
def lett (xs : List Int) (l i : Nat) (v : Int) (nx : List Int) : Nat → List Int
  | 0 => nx
  | k + 1 => addTo (lett xs l i v nx k) (stepP xs l i k).toNat v
/-- the states, one by one -/
def stat (xs : List Int) (l : Nat) (now nx : List Int) : Nat → List Int
  | 0 => nx
  | i + 1 => lett xs l i (now.getD i 0) (stat xs l now nx i) l
def cnt (xs : List Int) (s l : Nat) : Nat → List Int
  | 0 => (List.replicate s 0).set 0 1
  | k + 1 => stat xs l (cnt xs s l k) (List.replicate s 0) s
def tot (bs : List Bool) (now : List Int) : Nat → Int
  | 0 => 0
  | i + 1 => if bs.getD i false = true then wrap64 (tot bs now i + now.getD i 0) else tot bs now i
theorem addTo_len (zs : List Int) (to : Nat) (v : Int) : (addTo zs to v).length = zs.length := by simp [addTo]
theorem lett_len (xs : List Int) (l i : Nat) (v : Int) (nx : List Int) : ∀ k, (lett xs l i v nx k).length = nx.length
  | 0 => rfl
  | k + 1 => by rw [lett, addTo_len, lett_len xs l i v nx k]
theorem stat_len (xs : List Int) (l : Nat) (now nx : List Int) : ∀ i, (stat xs l now nx i).length = nx.length
  | 0 => rfl
  | i + 1 => by rw [stat, lett_len, stat_len xs l now nx i]
theorem cnt_len (xs : List Int) (s l : Nat) : ∀ k, (cnt xs s l k).length = s
  | 0 => by simp [cnt]
  | k + 1 => by rw [cnt, stat_len]; simp
end Go.Proofs.Ytlfmcdobiojdlaa.Num
