/- A row's numbers as words of bits. -/
import Derived.Test.YtpkifhjlmkbdpaaDoorLeEval
set_option linter.unusedVariables false
set_option linter.unusedSimpArgs false
namespace Go.LE

theorem wf_u8 {a : Int} (h : (Lit.int .u8 a).wf = true) : ∃ x : BitVec 8, a = x.toNat := by
  simp [Lit.wf, IntKind.min, IntKind.max, IntKind.signed, IntKind.bits] at h
  exact ⟨BitVec.ofNat 8 a.toNat, by simp; omega⟩
theorem wf_u32 {a : Int} (h : (Lit.int .u32 a).wf = true) : ∃ x : BitVec 32, a = x.toNat := by
  simp [Lit.wf, IntKind.min, IntKind.max, IntKind.signed, IntKind.bits] at h
  exact ⟨BitVec.ofNat 32 a.toNat, by simp; omega⟩
theorem wf_u64 {a : Int} (h : (Lit.int .u64 a).wf = true) : ∃ x : BitVec 64, a = x.toNat := by
  simp [Lit.wf, IntKind.min, IntKind.max, IntKind.signed, IntKind.bits] at h
  exact ⟨BitVec.ofNat 64 a.toNat, by simp; omega⟩

end Go.LE
