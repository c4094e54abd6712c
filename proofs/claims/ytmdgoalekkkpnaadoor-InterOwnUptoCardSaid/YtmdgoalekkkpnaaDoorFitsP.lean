/- Types that fit a sort: in plain Lean. -/
import Derived.Test.YtmdgoalekkkpnaaDoorSort
import Derived.Test.YtmdgoalekkkpnaaDoorPure
set_option linter.unusedVariables false
set_option linter.unusedSimpArgs false
namespace Go.Proofs.YtmdgoalekkkpnaaDoor

mutual
def Ty.fits (n : Int) : Ty → Srt → Bool
  | .mk st args, s => decide (0 ≤ st) && decide (st < n) && decide (args.length = s.args.length) && Ty.fitRows n args s.args
def Ty.fitRows (n : Int) : List (List Ty) → List Srt → Bool
  | [], _ => true
  | ts :: r, l => match l with
    | [] => true
    | s :: ss => Ty.fitSet n s ts none && Ty.fitRows n r ss
def Ty.fitSet (n : Int) (s : Srt) : List Ty → Option Ty → Bool
  | [], _ => true
  | t :: r, p => Ty.fits n t s && (match p with | none => true | some q => decide (Ty.cmp q t < 0)) && Ty.fitSet n s r (some t)
end
theorem Ty.fits_mk (n : Int) (st : Int) (args : List (List Ty)) (s : Srt) : Ty.fits n (.mk st args) s = (decide (0 ≤ st) && decide (st < n) && decide (args.length = s.args.length) && Ty.fitRows n args s.args) := by rw [Ty.fits]
theorem Ty.fitRows_drop (n : Int) (args : List (List Ty)) (l : List Srt) (k : Nat) (h : k < args.length) (h' : k < l.length) :
    Ty.fitRows n (args.drop k) (l.drop k) = (Ty.fitSet n l[k] args[k] none && Ty.fitRows n (args.drop (k + 1)) (l.drop (k + 1))) := by
  rw [List.drop_eq_getElem_cons h, List.drop_eq_getElem_cons h', Ty.fitRows]
theorem Ty.fitRows_end (n : Int) (args : List (List Ty)) (l : List Srt) : Ty.fitRows n (args.drop args.length) (l.drop args.length) = true := by
  rw [List.drop_length, Ty.fitRows]
/-- The type ahead of place k. -/
def ahead (ts : List Ty) : Nat → Option Ty
  | 0 => none
  | k + 1 => ts[k]?
theorem Ty.fitSet_drop0 (n : Int) (s : Srt) (ts : List Ty) (h : 0 < ts.length) :
    Ty.fitSet n s (ts.drop 0) (ahead ts 0) = (Ty.fits n ts[0] s && Ty.fitSet n s (ts.drop 1) (ahead ts 1)) := by
  rw [List.drop_eq_getElem_cons h]
  simp [Ty.fitSet, ahead, h]
theorem Ty.fitSet_dropS (n : Int) (s : Srt) (ts : List Ty) (k : Nat) (h : k + 1 < ts.length) :
    Ty.fitSet n s (ts.drop (k + 1)) (ahead ts (k + 1)) = (Ty.fits n ts[k + 1] s && decide (Ty.cmp ts[k] ts[k + 1] < 0) && Ty.fitSet n s (ts.drop (k + 2)) (ahead ts (k + 2))) := by
  rw [List.drop_eq_getElem_cons h]
  have h0 : k < ts.length := by omega
  simp [Ty.fitSet, ahead, h, h0]
theorem Ty.fitSet_end (n : Int) (s : Srt) (ts : List Ty) (p : Option Ty) : Ty.fitSet n s (ts.drop ts.length) p = true := by
  rw [List.drop_length, Ty.fitSet]
end Go.Proofs.YtmdgoalekkkpnaaDoor
