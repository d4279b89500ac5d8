/- Part of the proof of a law of 04: an engine that runs a function over an abstract heap, and what the functions compute; own work. -/
import Derived.Test.YtiegjildepfciaaSpec1
set_option linter.unusedVariables false
set_option linter.unusedSimpArgs false
set_option linter.unusedSectionVars false
/- Texts, bytes, lists of bytes. -/
namespace Go.Cz.S
open Go Go.Cz
theorem ofNat_toNat (b : UInt8) : UInt8.ofNat ((b.toNat : Int)).toNat = b := by simp
def bints (l : List UInt8) : List Int := l.map fun b => (b.toNat : Int)
theorem bints_text (l : List UInt8) : (textOf (bints l)).data.toList = l := by
  unfold bints
  rw [textOf_data, List.map_map]
  have : ((fun n : Int => UInt8.ofNat n.toNat) ∘ fun b : UInt8 => (b.toNat : Int)) = id := by funext b; exact ofNat_toNat b
  rw [this, List.map_id]
theorem bints_get {l : List UInt8} {i : Nat} {b : UInt8} (h : l[i]? = some b) : (bints l)[i]? = some (b.toNat : Int) := by simp [bints, h]
theorem bints_set (l : List UInt8) (i : Nat) (b : UInt8) : (bints l).set i (b.toNat : Int) = bints (l.set i b) := by simp [bints, List.map_set]
theorem bints_len (l : List UInt8) : (bints l).length = l.length := by simp [bints]
theorem bints_app (l m : List UInt8) : bints (l ++ m) = bints l ++ bints m := by simp [bints]
theorem bints_of (z : ByteArray) : byteInts z = bints z.data.toList := rfl
def mkB (l : List UInt8) : ByteArray := ⟨l.toArray⟩
theorem mkB_data (l : List UInt8) : (mkB l).data.toList = l := by simp [mkB]
theorem text_mkB (l : List UInt8) : textOf (bints l) = mkB l := ba_ext (by rw [bints_text, mkB_data])
theorem mkB_size (l : List UInt8) : (mkB l).size = l.length := by rw [← size_data, mkB_data]
theorem mkB_of (z : ByteArray) : mkB z.data.toList = z := ba_ext (by rw [mkB_data])
theorem empty_data : (ByteArray.mk #[]).data.toList = [] := rfl
theorem app_data (a b : ByteArray) : (a ++ b).data.toList = a.data.toList ++ b.data.toList := by
  rw [ByteArray.data_append, Array.toList_append]
theorem app_size (a b : ByteArray) : (a ++ b).size = a.size + b.size := by rw [← size_data, app_data, List.length_append, size_data, size_data]
end Go.Cz.S
