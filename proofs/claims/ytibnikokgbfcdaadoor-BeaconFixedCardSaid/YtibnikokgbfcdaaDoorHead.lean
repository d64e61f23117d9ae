/- Several texts in one: Facts, Facts2. -/
import Derived.Test.YtibnikokgbfcdaaDoorCards
import Derived.WalkKit
import Derived.KernelRfl
/- The closed facts of the dump's head, in steps: the head names every root, too long a string for one reckoning of the kernel. -/
namespace Go.Proofs.YtibnikokgbfcdaaDoor
open Go
set_option maxRecDepth 100000

def chars (l : List Nat) : List Char := l.map Char.ofNat
theorem wordsSigns_word (r : List Char) : ∀ a : List Char, (∀ c ∈ a, c ≠ Char.ofNat 32) → wordsSigns (a ++ Char.ofNat 32 :: r) = a :: wordsSigns r
  | [], _ => rfl
  | c :: a, h => by
    have ih := wordsSigns_word r a fun d hd => h d (List.mem_cons_of_mem _ hd)
    have hc : c ≠ Char.ofNat 32 := h c List.mem_cons_self
    rw [List.cons_append, wordsSigns.eq_3 _ _ hc, ih]
def headN : List Nat := [104, 97, 114, 110, 101, 115, 115]
def sumN : List Nat := [53, 57, 49, 102, 52, 56, 102, 56, 102, 51, 50, 100, 102, 54, 50, 100, 56, 51, 56, 99, 98, 54, 99, 57, 51, 48, 49, 52, 51, 53, 54, 50, 48, 49, 49, 53, 54, 98, 52, 98, 97, 55, 53, 98, 57, 55, 55, 99, 101, 99, 49, 52, 57, 53, 50, 57, 102, 56, 97, 102, 56, 54, 54, 54]
def cutN : List Nat := [99, 117, 116]
def restN : List Nat := [97, 116, 32, 112, 111, 100, 105, 117, 109, 47, 112, 111, 100, 105, 117, 109, 108, 97, 119, 51, 50, 46, 68, 114, 97, 119, 83, 112, 101, 99, 32, 112, 111, 100, 105, 117, 109, 47, 112, 111, 100, 105, 117, 109, 108, 97, 119, 51, 50, 46, 68, 114, 97, 119, 79, 114, 100, 101, 114, 83, 112, 101, 99, 32, 112, 111, 100, 105, 117, 109, 47, 112, 111, 100, 105, 117, 109, 108, 97, 119, 51, 50, 46, 68, 114, 97, 119, 69, 118, 101, 110, 32, 112, 111, 100, 105, 117, 109, 47, 112, 111, 100, 105, 117, 109, 108, 97, 119, 51, 50, 46, 68, 114, 97, 119, 80, 101, 114, 109, 32, 112, 111, 100, 105, 117, 109, 47, 112, 111, 100, 105, 117, 109, 108, 97, 119, 51, 50, 46, 68, 114, 97, 119, 82, 101, 97, 99, 104, 101, 100, 32, 112, 111, 100, 105, 117, 109, 47, 112, 111, 100, 105, 117, 109, 108, 97, 119, 51, 50, 46, 68, 114, 97, 119, 87, 111, 114, 100, 115, 32, 112, 111, 100, 105, 117, 109, 47, 112, 111, 100, 105, 117, 109, 108, 97, 119, 48, 56, 46, 67, 104, 97, 105, 110, 65, 100, 100, 83, 112, 101, 99, 32, 112, 111, 100, 105, 117, 109, 47, 112, 111, 100, 105, 117, 109, 108, 97, 119, 48, 56, 46, 67, 104, 97, 105, 110, 66, 117, 105, 108, 116, 32, 112, 111, 100, 105, 117, 109, 47, 112, 111, 100, 105, 117, 109, 108, 97, 119, 48, 56, 46, 67, 104, 97, 105, 110, 69, 113, 117, 97, 108, 32, 112, 111, 100, 105, 117, 109, 47, 112, 111, 100, 105, 117, 109, 108, 97, 119, 48, 56, 46, 67, 104, 97, 105, 110, 67, 104, 97, 110, 103, 101, 100, 32, 112, 111, 100, 105, 117, 109, 47, 112, 111, 100, 105, 117, 109, 108, 97, 119, 48, 56, 46, 67, 104, 97, 105, 110, 80, 97, 114, 116, 115, 32, 112, 111, 100, 105, 117, 109, 47, 112, 111, 100, 105, 117, 109, 108, 97, 119, 51, 49, 46, 66, 101, 97, 99, 111, 110, 83, 112, 101, 99, 32, 112, 111, 100, 105, 117, 109, 47, 112, 111, 100, 105, 117, 109, 108, 97, 119, 51, 49, 46, 66, 101, 97, 99, 111, 110, 66, 105, 116, 115, 83, 112, 101, 99, 32, 112, 111, 100, 105, 117, 109, 47, 112, 111, 100, 105, 117, 109, 108, 97, 119, 51, 49, 46, 66, 101, 97, 99, 111, 110, 77, 105, 115, 115, 105, 110, 103, 32, 112, 111, 100, 105, 117, 109, 47, 112, 111, 100, 105, 117, 109, 108, 97, 119, 51, 49, 46, 66, 101, 97, 99, 111, 110, 70, 105, 120, 101, 100, 32, 112, 111, 100, 105, 117, 109, 47, 112, 111, 100, 105, 117, 109, 108, 97, 119, 51, 49, 46, 66, 101, 97, 99, 111, 110, 79, 112, 101, 110, 101, 100, 32, 112, 111, 100, 105, 117, 109, 47, 112, 111, 100, 105, 117, 109, 108, 97, 119, 51, 49, 46, 66, 101, 97, 99, 111, 110, 73, 100, 108, 101, 32, 112, 111, 100, 105, 117, 109, 47, 112, 111, 100, 105, 117, 109, 108, 97, 119, 51, 49, 46, 66, 101, 97, 99, 111, 110, 70, 105, 114, 115, 116, 32, 112, 111, 100, 105, 117, 109, 47, 112, 111, 100, 105, 117, 109, 108, 97, 119, 53, 53, 46, 83, 97, 109, 112, 108, 101, 83, 112, 101, 99, 32, 112, 111, 100, 105, 117, 109, 47, 112, 111, 100, 105, 117, 109, 108, 97, 119, 53, 53, 46, 83, 97, 109, 112, 108, 101, 83, 116, 114, 97, 116, 97, 83, 112, 101, 99, 32, 112, 111, 100, 105, 117, 109, 47, 112, 111, 100, 105, 117, 109, 108, 97, 119, 53, 53, 46, 83, 97, 109, 112, 108, 101, 69, 118, 101, 110, 32, 112, 111, 100, 105, 117, 109, 47, 112, 111, 100, 105, 117, 109, 108, 97, 119, 53, 53, 46, 83, 97, 109, 112, 108, 101, 70, 105, 114, 115, 116, 32, 112, 111, 100, 105, 117, 109, 47, 112, 111, 100, 105, 117, 109, 108, 97, 119, 53, 53, 46, 83, 97, 109, 112, 108, 101, 80, 97, 114, 116, 115]
theorem initOrder_eq : Tryd.prog.initOrder = String.ofList (chars headN ++ Char.ofNat 32 :: (chars sumN ++ Char.ofNat 32 :: (chars cutN ++ Char.ofNat 32 :: chars restN))) := by kernel_rfl
theorem noSpace (l : List Nat) (h : l.all (fun n => !(Char.ofNat n == Char.ofNat 32)) = true) : ∀ c ∈ chars l, c ≠ Char.ofNat 32 := by
  intro c hc
  obtain ⟨n, hn, rfl⟩ := List.mem_map.1 hc
  have := List.all_eq_true.1 h n hn
  simpa using this
theorem words_eq : wordsSigns Tryd.prog.initOrder.toList = chars headN :: chars sumN :: chars cutN :: wordsSigns (chars restN) := by
  rw [initOrder_eq, String.toList_ofList, wordsSigns_word _ _ (noSpace _ (by kernel_rfl)), wordsSigns_word _ _ (noSpace _ (by kernel_rfl)), wordsSigns_word _ _ (noSpace _ (by kernel_rfl))]
theorem main_eq : behindMainWord (wordsSigns Tryd.prog.initOrder.toList) = chars cutN :: wordsSigns (chars restN) := by
  rw [words_eq]
  have h1 : (chars headN == "harness".toList) = true := by kernel_rfl
  have h2 : isSumSigns (chars sumN) = true := by kernel_rfl
  show (if ((chars headN == "harness".toList || chars headN == "ownmain".toList) && isSumSigns (chars sumN)) = true then chars cutN :: wordsSigns (chars restN) else chars headN :: chars sumN :: chars cutN :: wordsSigns (chars restN)) = _
  rw [if_pos (by rw [h1, h2]; rfl)]
theorem strip_eq (r : List (List Char)) : stripLifts liftWords (chars cutN :: r) = ([], chars cutN :: r) := by kernel_rfl
theorem laysLater_no : Tryd.prog.laysLater = false := by kernel_rfl
theorem bearsReflect_no : Tryd.prog.bearsReflect = false := by kernel_rfl
theorem doorFits_yes : Tryd.prog.doorFits [] = true := by kernel_rfl
theorem headLifts_eq : Tryd.prog.headLifts = [] := by
  unfold Program.headLifts
  rw [main_eq, strip_eq]
  kernel_rfl
theorem mayEnter_yes : Tryd.prog.mayEnter = true := by
  unfold Program.mayEnter
  rw [main_eq]
  simp only [strip_eq, laysLater_no, bearsReflect_no, doorFits_yes]
  kernel_rfl
theorem liftsFinal_no : Tryd.prog.liftsFinal = false := by
  unfold Program.liftsFinal
  rw [main_eq, headLifts_eq]
  kernel_rfl
theorem make_cut : Tryd.prog.make = some .cut := by
  unfold Program.make
  rw [main_eq]
  kernel_rfl
end Go.Proofs.YtibnikokgbfcdaaDoor

/- Closed facts that every card of this seat asks. -/
namespace Go.Proofs.YtibnikokgbfcdaaDoor
open Go
set_option maxRecDepth 100000
theorem mainIs_eq : Tryd.prog.mainIs = some (true, chars sumN) := by
  unfold Program.mainIs
  rw [words_eq]
  have h1 : (chars headN == "harness".toList) = true := by kernel_rfl
  have h2 : isSumSigns (chars sumN) = true := by kernel_rfl
  show (if (!isSumSigns (chars sumN)) = true then none else if (chars headN == "harness".toList) = true then some (true, chars sumN) else if (chars headN == "ownmain".toList) = true then some (false, chars sumN) else none) = some (true, chars sumN)
  rw [if_neg (by rw [h2]; decide), if_pos h1]
theorem looks_eq : true = Tryd.prog.looks [] := by kernel_rfl
end Go.Proofs.YtibnikokgbfcdaaDoor
