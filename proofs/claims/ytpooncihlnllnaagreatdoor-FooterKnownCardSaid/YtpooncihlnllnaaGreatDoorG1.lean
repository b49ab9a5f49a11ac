/- What the rows' listed variables say of the heap. -/
import Derived.Test.YtpooncihlnllnaaGreatDoorPG
import Derived.Test.YtpooncihlnllnaaGreatDoorS0
import Derived.Test.YtpooncihlnllnaaGreatDoorRows
import Derived.KernelRfl
namespace Go.Proofs.YtpooncihlnllnaaGreatDoor.H
open Go.Sh Go
theorem laid_good {W : World} (h : laidMetH Tryz.prog [("math/bits.deBruijn32tab", Rows.laid_math_bits_deBruijn32tab), ("math/bits.deBruijn64tab", Rows.laid_math_bits_deBruijn64tab), ("internal/strconv.uint64pow10", Rows.laid_internal_strconv_uint64pow10), ("strconv.ErrRange", Rows.laid_strconv_ErrRange), ("strconv.ErrSyntax", Rows.laid_strconv_ErrSyntax)] W) : Good W.heap := by
  rw [MakeChecks.laidMetH_plain _ _ _ (by kernel_rfl)] at h
  refine ⟨?_, ?_, ?_⟩
  · exact laid_iface h (n := "strconv.ErrSyntax") (t := 96) (ms := #[("Error", 52)]) (List.mem_cons_of_mem _ (List.mem_cons_of_mem _ (List.mem_cons_of_mem _ (List.mem_cons_of_mem _ (List.mem_cons_self ..))))) (by kernel_rfl) (by kernel_rfl) (by kernel_rfl)
  · exact laid_iface h (n := "strconv.ErrRange") (t := 96) (ms := #[("Error", 52)]) (List.mem_cons_of_mem _ (List.mem_cons_of_mem _ (List.mem_cons_of_mem _ (List.mem_cons_self ..)))) (by kernel_rfl) (by kernel_rfl) (by kernel_rfl)
  · exact laid_table h (n := "internal/strconv.uint64pow10") (k := .u64) (zs := Lib.pow10Tab) (t := 135) (e := 110) (m := 20) (List.mem_cons_of_mem _ (List.mem_cons_of_mem _ (by rw [show (Lib.tabData .u64 Lib.pow10Tab : DataW Unit) = Rows.laid_internal_strconv_uint64pow10 by kernel_rfl]; exact List.mem_cons_self ..))) (by kernel_rfl) (by kernel_rfl) (by kernel_rfl) (by kernel_rfl) (by kernel_rfl) (by kernel_rfl)
end Go.Proofs.YtpooncihlnllnaaGreatDoor.H
