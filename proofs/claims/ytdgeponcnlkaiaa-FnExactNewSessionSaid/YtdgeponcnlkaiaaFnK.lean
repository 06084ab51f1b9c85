/- What a matrix of small entries is: its shape and its factors, at the first session's matrix. No condition. -/
import Derived.Test.YtdgeponcnlkaiaaFnJ
namespace Go.Proofs.Ytdgeponcnlkaiaa.Ab
open Go
set_option linter.unusedSimpArgs false
set_option linter.unusedVariables false
set_option maxRecDepth 10000
set_option maxHeartbeats 2000000
theorem impl_shaped_1_calls (x : Int) : ACalls Try.prog F.impl_shaped_1 [.int x] [] true (fun outs res => outs = [] ∧ res = [.one (D.bool (!decide (-99 ≤ x ∧ x ≤ 99)))]) := by
  refine ACalls.of_body (C := C.impl_shaped_1) (n := Try.f177.ntmps) tabT folT Try.func177 rfl (by kernel_rfl) rfl (Nat.le_of_ble_eq_true rfl) (by decide) (by kernel_rfl) (by kernel_rfl) rfl (by simp) (by simp) ?_
  simp only [Try.f177]
  refine wseq ?_
  refine wreg fun K hK => ?_
  simp [C.impl_shaped_1]
  refine hK _ ?_; clear hK K
  show AWp _ _ _ _ _
  refine wseq ?_
  refine wregI ([0, 1] ++ ([2, 3])) rfl fun K hK => ?_
  refine opsI_seg fun L hL => ?_
  simp [C.impl_shaped_1]
  refine wcall1 (impl_within_calls x (-99) 99) (by simp) (by simp) ?_
  simp [C.impl_shaped_1]
  refine hL _ ?_; clear hL L
  refine opsI_end fun L hL => ?_
  simp [C.impl_shaped_1]
  refine hL _ ?_; clear hL L
  simp [C.impl_shaped_1]
  refine hK _ ?_; clear hK K
  show AWp _ _ _ _ _
  refine wret ?_
  simp [C.impl_shaped_1]

theorem impl_Matrix_at_calls (m : Mat) (i j q : Nat) (n : Nat) (hn : m.n = n) (hq : q = i * n + j) (hlt : q < m.d.length) (hb : m.d.length < 1000000) : ACalls Try.prog F.impl_Matrix_at [aM m, .int i, .int j] [] true (fun outs res => outs = [] ∧ res = [.one (D.int (m.d[q]'hlt))]) := by
  refine ACalls.of_body (C := C.impl_Matrix_at) (n := Try.f98.ntmps) tabT folT Try.func98 rfl (by kernel_rfl) rfl (Nat.le_of_ble_eq_true rfl) (by decide) (by kernel_rfl) (by kernel_rfl) rfl (by simp) (by simp) ?_
  simp only [Try.f98]
  refine wseq ?_
  refine wreg fun K hK => ?_
  simp [C.impl_Matrix_at]
  refine hK _ ?_; clear hK K
  show AWp _ _ _ _ _
  refine wseq ?_
  have h0 : ((i : Int) * n) = ((i * n : Nat) : Int) := by simp
  have h1 : IntKind.i64.wrap ((i : Int) * n) = (i : Int) * n := by
    rw [h0, wrapOk (by omega) (by omega)]
  have h2 : IntKind.i64.wrap ((i : Int) * n + j) = (q : Int) := by
    rw [h0, wrapOk (by omega) (by omega)]
    omega
  refine wreg fun K hK => ?_
  simp [C.impl_Matrix_at, hn, h1, h2, hlt, get_ints]
  refine hK _ ?_; clear hK K
  show AWp _ _ _ _ _
  refine wret ?_
  simp [C.impl_Matrix_at]

theorem impl_shaped_calls : ACalls Try.prog F.impl_shaped [.ag [.int 2, .int 2, .d (.sh 1 4 (ints [0, 1, -1, 0]))]] [] true (fun outs res => outs = [] ∧ res = [.one (D.bool true)]) := by
  refine ACalls.of_body (C := C.impl_shaped) (n := Try.f92.ntmps) tabT folT Try.func92 rfl (by kernel_rfl) rfl (Nat.le_of_ble_eq_true rfl) (by decide) (by kernel_rfl) (by kernel_rfl) rfl (by simp) (by simp) ?_
  simp only [Try.f92]
  refine wseq ?_
  refine wreg fun K hK => ?_
  simp [C.impl_shaped]
  refine hK _ ?_; clear hK K
  show AWp _ _ _ _ _
  refine wseq ?_
  refine wregI ([0, 1, 2] ++ ([3, 4, 5, 6, 7, 8] ++ ([9, 10, 11, 12, 13, 14, 15, 16, 17, 18, 19, 20, 21, 22, 23, 24] ++ ([25, 26, 27])))) rfl fun K hK => ?_
  refine opsI_seg fun L hL => ?_
  simp [C.impl_shaped, show IntKind.i64.wrap 4 = 4 from rfl]
  refine wcall1 (impl_within_calls 2 1 5) (by simp) (by simp) ?_
  simp [C.impl_shaped, show IntKind.i64.wrap 4 = 4 from rfl]
  refine hL _ ?_; clear hL L
  refine opsI_seg fun L hL => ?_
  simp [C.impl_shaped, show IntKind.i64.wrap 4 = 4 from rfl]
  refine wcall1 (impl_within_calls 2 2 8) (by simp) (by simp) ?_
  simp [C.impl_shaped, show IntKind.i64.wrap 4 = 4 from rfl]
  refine hL _ ?_; clear hL L
  refine opsI_seg fun L hL => ?_
  simp [C.impl_shaped, show IntKind.i64.wrap 4 = 4 from rfl]
  refine wcall1 (slices_ContainsFunc_int_int_calls [0, 1, -1, 0] _ (fun x => !decide (-99 ≤ x ∧ x ≤ 99)) (by simp) rfl (fun x _ => impl_shaped_1_calls x)) (by simp) (by simp) ?_
  simp [C.impl_shaped, show IntKind.i64.wrap 4 = 4 from rfl]
  refine hL _ ?_; clear hL L
  refine opsI_end fun L hL => ?_
  simp [C.impl_shaped, show IntKind.i64.wrap 4 = 4 from rfl]
  refine hL _ ?_; clear hL L
  simp [C.impl_shaped, show IntKind.i64.wrap 4 = 4 from rfl]
  refine hK _ ?_; clear hK K
  show AWp _ _ _ _ _
  refine wret ?_
  simp [C.impl_shaped]

theorem impl_MatrixOk_calls (hf : ACalls Try.prog F.impl_factors [.ag [.int 2, .int 2, .d (.sh 1 4 (ints [0, 1, -1, 0]))]] [] true (fun outs res => outs = [] ∧ res = [.one (.ow 1 2 (ints [1, 1]))])) : ACalls Try.prog F.impl_MatrixOk [.ag [.int 2, .int 2, .d (.sh 1 4 (ints [0, 1, -1, 0]))]] [] true (fun outs res => outs = [] ∧ res = [.one (D.bool true)]) := by
  refine ACalls.of_body (C := C.impl_MatrixOk) (n := Try.f90.ntmps) tabT folT Try.func90 rfl (by kernel_rfl) rfl (Nat.le_of_ble_eq_true rfl) (by decide) (by kernel_rfl) (by kernel_rfl) rfl (by simp) (by simp) ?_
  simp only [Try.f90]
  refine wseq ?_
  refine wreg fun K hK => ?_
  simp [C.impl_MatrixOk]
  refine hK _ ?_; clear hK K
  show AWp _ _ _ _ _
  refine wseq ?_
  refine wregI ([0, 1] ++ ([2, 3, 4] ++ ([5, 6, 7]))) rfl fun K hK => ?_
  refine opsI_seg fun L hL => ?_
  simp [C.impl_MatrixOk]
  refine wcall1 (impl_shaped_calls) (by simp) (by simp) ?_
  simp [C.impl_MatrixOk]
  refine hL _ ?_; clear hL L
  refine opsI_seg fun L hL => ?_
  simp [C.impl_MatrixOk]
  refine wcall1 (hf) (by simp) (by simp) ?_
  simp [C.impl_MatrixOk]
  refine hL _ ?_; clear hL L
  refine opsI_end fun L hL => ?_
  simp [C.impl_MatrixOk]
  refine hL _ ?_; clear hL L
  simp [C.impl_MatrixOk]
  refine hK _ ?_; clear hK K
  show AWp _ _ _ _ _
  refine wret ?_
  simp [C.impl_MatrixOk]

theorem impl_started_calls (hok : ACalls Try.prog F.impl_MatrixOk [.ag [.int 2, .int 2, .d (.sh 1 4 (ints [0, 1, -1, 0]))]] [] true (fun outs res => outs = [] ∧ res = [.one (D.bool true)])) (hv : ∀ f ∈ varsL 2, f.ts.length ≤ 1000000 ∧ ∀ t ∈ f.ts, t.e.length < 17592186044416) : ACalls Try.prog F.impl_started [.ag [.int 2, .int 2, .d (.sh 1 4 (ints [0, 1, -1, 0]))]] [] true (fun outs res => outs = [] ∧ WkRs res [.ag (zO z0), .one (D.bool true)]) := by
  refine ACalls.of_body (C := C.impl_started) (n := Try.f77.ntmps) tabT folT Try.func77 rfl (by kernel_rfl) rfl (Nat.le_of_ble_eq_true rfl) (by decide) (by kernel_rfl) (by kernel_rfl) rfl (by simp) (by simp) ?_
  simp only [Try.f77]
  refine wseq ?_
  refine wreg fun K hK => ?_
  simp [C.impl_started]
  refine hK _ ?_; clear hK K
  show AWp _ _ _ _ _
  refine wseq ?_
  refine wregI ([0, 1] ++ ([2, 3, 4, 5, 6, 7])) rfl fun K hK => ?_
  refine opsI_seg fun L hL => ?_
  simp [C.impl_started, sO]
  refine wcall1 (impl_InitialSeed_calls 2 2 [0, 1, -1, 0] (by omega) (by simp) hok) (by simp) (by simp) ?_
  simp [C.impl_started, sO]
  refine hL _ ?_; clear hL L
  refine opsI_end fun L hL => ?_
  simp [C.impl_started, sO]
  refine hL _ ?_; clear hL L
  simp [C.impl_started, sO]
  refine hK _ ?_; clear hK K
  show AWp _ _ _ _ _
  refine wseq ?_
  refine wdrawI [(true, 0), (true, 1), (true, 2), (true, 5), (false, 3), (true, 4), (false, 6), (true, 7)] ⟨by kernel_rfl, by kernel_rfl⟩ ([0, 1, 2, 5, 3] ++ ([4, 6, 7])) rfl fun K hK => ?_
  refine opsI_seg fun L hL => ?_
  simp [C.impl_started, sO]
  refine wcall1 (impl_copySeed_calls ⟨m0, varsL 2⟩ (by simp) (by simp [varsL]) hv) (by simp) (by simp) ?_
  simp [C.impl_started, sO]
  refine hL _ ?_; clear hL L
  refine opsI_end fun L hL => ?_
  simp [C.impl_started, sO]
  refine hL _ ?_; clear hL L
  simp [C.impl_started, sO]
  refine hK _ ?_; clear hK K
  show AWp _ _ _ _ _
  refine wret ?_
  simp [C.impl_started]
  exact ⟨.inl rfl, .inl rfl, .inl rfl, .inr ⟨rfl, 1, rfl⟩, .inl rfl, .inl rfl, .inl rfl, .inl rfl, trivial⟩

end Go.Proofs.Ytdgeponcnlkaiaa.Ab
