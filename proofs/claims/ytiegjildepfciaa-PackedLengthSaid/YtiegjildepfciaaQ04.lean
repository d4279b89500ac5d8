/- Part of the proof of a law of 04: an engine that runs a function over an abstract heap, and what the functions compute; own work. -/
import Derived.Test.YtiegjildepfciaaP04
import Derived.Test.YtiegjildepfciaaSpec2
set_option linter.unusedVariables false
set_option linter.unusedSimpArgs false
set_option linter.unusedSectionVars false
/- Chapter 4: the laws, of arguments as they are read. -/
namespace Go.Cz.S
open Go Go.Cz
theorem law04_PackedPack_row (h : H) (t : Sl × Int) (hr : RdL h [.sl [.i .i64], .i .i64] [.sl t.1, .i .i64 t.2]) : law04_PackedPack t (fun r _ => r = true) h := by
  obtain ⟨l, A, hz, _⟩ := (RdL_cons.1 hr).1.ints
  exact PackedPack_holds t.1 l t.2 h A (fun n hn => bounds_i64 (hz n hn))
theorem law04_PackedUnpack_row (h : H) (t : ByteArray × Int × Int) (hr : RdL h [.s, .i .i64, .i .i64] [.s t.1, .i .i64 t.2.1, .i .i64 t.2.2]) : law04_PackedUnpack t (fun r _ => r = true) h := PackedUnpack_holds t.1 t.2.1 t.2.2 h
theorem law04_PackedBack_row (h : H) (t : Sl × Int × Int) (hr : RdL h [.sl [.i .u32], .i .u8, .i .u8] [.sl t.1, .i .u8 t.2.1, .i .u8 t.2.2]) : law04_PackedBack t (fun r _ => r = true) h := by
  obtain ⟨l, A, hz, _⟩ := (RdL_cons.1 hr).1.ints
  have h1 := (RdL_cons.1 (RdL_cons.1 hr).2).1.u8
  have h2 := (RdL_cons.1 (RdL_cons.1 (RdL_cons.1 hr).2).2).1.u8
  exact PackedBack_holds t.1 l t.2.1 t.2.2 h A (fun n hn => bounds_u32 (hz n hn)) h1.1 h1.2 h2.1 h2.2
theorem law04_PackedWay_row (h : H) (t : ByteArray × Int × Int) (hr : RdL h [.s, .i .u16, .i .u8] [.s t.1, .i .u16 t.2.1, .i .u8 t.2.2]) : law04_PackedWay t (fun r _ => r = true) h := by
  have h1 := (RdL_cons.1 (RdL_cons.1 hr).2).1.u16
  have h2 := (RdL_cons.1 (RdL_cons.1 (RdL_cons.1 hr).2).2).1.u8
  exact PackedWay_holds t.1 t.2.1 t.2.2 h h1.1 h1.2 h2.1 h2.2
theorem law04_PackedLength_row (h : H) (t : Int × Int × ByteArray) (hr : RdL h [.i .u16, .i .u8, .s] [.i .u16 t.1, .i .u8 t.2.1, .s t.2.2]) : law04_PackedLength t (fun r _ => r = true) h := by
  have h1 := (RdL_cons.1 hr).1.u16
  have h2 := (RdL_cons.1 (RdL_cons.1 hr).2).1.u8
  exact PackedLength_holds t.2.2 t.1 t.2.1 h h1.1 h1.2 h2.1 h2.2
end Go.Cz.S
