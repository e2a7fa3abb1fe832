/- Strings and the lists of their bytes. No statement of the seat is proved here. -/
import Derived.Test.YtdepiibcopbjlaaBFnExactFitsState
import Derived.Lib.LazyBuf
namespace Go.Proofs.Ytdepiibcopbjlaa.BFnExactFitsState
open Go.RowKit Go.Proofs.YtdepiibcopbjlaaW.PrintWords Go.Proofs.YtdepiibcopbjlaaW.PrintLast
set_option linter.unusedVariables false

theorem str_bytes (s : ByteArray) : strOfNums (bytesOf s) = s := by
  have h := Go.Lib.Lz.strOfNums_map s.data.toList
  unfold bytesOf
  rw [h]
theorem bytesOf_append (a b : ByteArray) : bytesOf (a ++ b) = bytesOf a ++ bytesOf b := by
  unfold bytesOf
  rw [ByteArray.data_append]
  simp
theorem bytesOf_cut (s : ByteArray) (i : Nat) (h : i < s.size) : bytesOf (s.extract i (i + 1)) = [bt s (i : Int)] := by
  unfold bytesOf
  rw [ByteArray.data_extract]
  have h' : i < s.data.size := h
  have e : (s.data.extract i (i + 1)).toList = [s.data[i]] := by
    apply List.ext_getElem
    · simp; omega
    · intro j h1 h2
      simp at h1
      have : j = 0 := by omega
      subst this
      simp
  rw [e]
  simp [bt, h]
  rfl
end Go.Proofs.Ytdepiibcopbjlaa.BFnExactFitsState
