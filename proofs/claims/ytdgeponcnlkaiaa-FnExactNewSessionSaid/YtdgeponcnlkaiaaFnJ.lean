/- The first seed and the first session, on both sides. No condition. -/
import Derived.Test.YtdgeponcnlkaiaaFnG
import Derived.Test.YtdgeponcnlkaiaaFnI
namespace Go.Proofs.Ytdgeponcnlkaiaa.Ab
open Go
set_option linter.unusedSimpArgs false
set_option linter.unusedVariables false
set_option maxRecDepth 10000
set_option maxHeartbeats 2000000
def unitL (n i : Nat) : List Int := (List.replicate n 0).set i 1
theorem unitL_length (n i : Nat) : (unitL n i).length = n := by simp [unitL]
noncomputable def monoF (e : List Int) : Lau := if Right ⟨e.length, [⟨e, 1⟩]⟩ then ⟨e.length, [⟨e, 1⟩]⟩ else zeroF
noncomputable def varsL (r : Nat) : List Lau := (List.range r).map fun i => monoF (unitL r i)
theorem fO_snoc (l : List Lau) (f : Lau) : rows fO l ++ [D.v (.int .i64 f.v), D.ow 2 f.ts.length (rows tO f.ts)] = rows fO (l ++ [f]) := by
  rw [rows_append]
  rfl
theorem mono_right {e : List Int} : Right ⟨e.length, [⟨e, 1⟩]⟩ ↔ (1 ≤ (e.length : Int) ∧ (e.length : Int) ≤ 8) ∧ okE e e.length = true := by
  rw [okE_iff]
  unfold Right Good DescT
  simp
theorem spec_l1CopyMatrix_calls (m : Mat) (hx : m.d.length < 17592186044416) : ACalls Try.prog F.spec_l1CopyMatrix [aM m] [] true (fun outs res => outs = [] ∧ res = [.ag (mO m)]) := by
  refine ACalls.of_body (C := C.spec_l1CopyMatrix) (n := Try.f166.ntmps) tabT folT Try.func166 rfl (by kernel_rfl) rfl (Nat.le_of_ble_eq_true rfl) (by decide) (by kernel_rfl) (by kernel_rfl) rfl (by simp) (by simp) ?_
  simp only [Try.f166]
  refine wseq ?_
  refine wreg fun K hK => ?_
  simp [C.spec_l1CopyMatrix]
  refine hK _ ?_; clear hK K
  show AWp _ _ _ _ _
  refine wseq ?_
  refine wdrawI [(true, 0), (true, 1), (true, 2), (true, 3), (true, 4), (true, 5), (false, 6), (true, 7), (false, 8)] ⟨by kernel_rfl, by kernel_rfl⟩ ([0, 1, 2, 3, 4, 5, 6] ++ ([7, 8])) rfl fun K hK => ?_
  refine opsI_seg fun L hL => ?_
  simp [C.spec_l1CopyMatrix]
  refine wcall1 (spec_l1Ints_calls m.d hx) (by simp) (by simp) ?_
  simp [C.spec_l1CopyMatrix]
  refine hL _ ?_; clear hL L
  refine opsI_end fun L hL => ?_
  simp [C.spec_l1CopyMatrix]
  refine hL _ ?_; clear hL L
  simp [C.spec_l1CopyMatrix]
  refine hK _ ?_; clear hK K
  show AWp _ _ _ _ _
  refine wret ?_
  simp [C.spec_l1CopyMatrix, mO]

theorem spec_l3Unit_calls (n i : Nat) (hn : n ≤ 8) (hi : i < n) : ACalls Try.prog F.spec_l3Unit [.int n, .int i] [] true (fun outs res => outs = [] ∧ res = [.one (owI (unitL n i))]) := by
  refine ACalls.of_body (C := C.spec_l3Unit) (n := Try.f167.ntmps) tabT folT Try.func167 rfl (by kernel_rfl) rfl (Nat.le_of_ble_eq_true rfl) (by decide) (by kernel_rfl) (by kernel_rfl) rfl (by simp) (by simp) ?_
  simp only [Try.f167]
  refine wseq ?_
  refine wreg fun K hK => ?_
  simp [C.spec_l3Unit]
  refine hK _ ?_; clear hK K
  show AWp _ _ _ _ _
  refine wseq ?_
  refine wreg fun K hK => ?_
  simp [C.spec_l3Unit, zeros_ints, show (8 : Int) * n ≤ 281474976710656 by omega, show (n : Int) ≤ 281474976710656 by omega]
  refine hK _ ?_; clear hK K
  show AWp _ _ _ _ _
  refine wseq ?_
  refine wreg fun K hK => ?_
  simp [C.spec_l3Unit, hi]
  refine hK _ ?_; clear hK K
  show AWp _ _ _ _ _
  refine wseq ?_
  refine wreg fun K hK => ?_
  simp [C.spec_l3Unit]
  refine hK _ ?_; clear hK K
  show AWp _ _ _ _ _
  refine wret ?_
  simp [C.spec_l3Unit, unitL]

theorem impl_unit_calls (n i : Nat) (hn : n ≤ 8) (hi : i < n) : ACalls Try.prog F.impl_unit [.int n, .int i] [] true (fun outs res => outs = [] ∧ res = [.one (owI (unitL n i))]) := by
  refine ACalls.of_body (C := C.impl_unit) (n := Try.f97.ntmps) tabT folT Try.func97 rfl (by kernel_rfl) rfl (Nat.le_of_ble_eq_true rfl) (by decide) (by kernel_rfl) (by kernel_rfl) rfl (by simp) (by simp) ?_
  simp only [Try.f97]
  refine wseq ?_
  refine wreg fun K hK => ?_
  simp [C.impl_unit]
  refine hK _ ?_; clear hK K
  show AWp _ _ _ _ _
  refine wseq ?_
  refine wreg fun K hK => ?_
  simp [C.impl_unit, zeros_ints, show (8 : Int) * n ≤ 281474976710656 by omega, show (n : Int) ≤ 281474976710656 by omega]
  refine hK _ ?_; clear hK K
  show AWp _ _ _ _ _
  refine wseq ?_
  refine wreg fun K hK => ?_
  simp [C.impl_unit, hi]
  refine hK _ ?_; clear hK K
  show AWp _ _ _ _ _
  refine wseq ?_
  refine wreg fun K hK => ?_
  simp [C.impl_unit]
  refine hK _ ?_; clear hK K
  show AWp _ _ _ _ _
  refine wret ?_
  simp [C.impl_unit, unitL]

theorem spec_MonomialLaurent_calls (e : List Int) (hx : e.length < 17592186044416) : ACalls Try.prog F.spec_MonomialLaurent [.d (shI e)] [] true (fun outs res => outs = [] ∧ WkRs res [.ag (fO (monoF e))]) := by
  refine ACalls.of_body (C := C.spec_MonomialLaurent) (n := Try.f151.ntmps) tabT folT Try.func151 rfl (by kernel_rfl) rfl (Nat.le_of_ble_eq_true rfl) (by decide) (by kernel_rfl) (by kernel_rfl) rfl (by simp) (by simp) ?_
  simp only [Try.f151]
  refine wseq ?_
  refine wreg fun K hK => ?_
  simp [C.spec_MonomialLaurent]
  refine hK _ ?_; clear hK K
  show AWp _ _ _ _ _
  refine wseq ?_
  refine wregI ([0, 1, 2, 3] ++ ([4, 5, 6, 7, 8])) rfl fun K hK => ?_
  refine opsI_seg fun L hL => ?_
  simp [C.spec_MonomialLaurent]
  refine wcall1 (spec_l1Ints_calls e hx) (by simp) (by simp) ?_
  simp [C.spec_MonomialLaurent]
  refine hL _ ?_; clear hL L
  refine opsI_end fun L hL => ?_
  simp [C.spec_MonomialLaurent]
  refine hL _ ?_; clear hL L
  simp [C.spec_MonomialLaurent]
  refine hK _ ?_; clear hK K
  show AWp _ _ _ _ _
  refine wseq ?_
  refine wseq ?_
  refine wregI ([0, 1] ++ ([2])) rfl fun K hK => ?_
  refine opsI_seg fun L hL => ?_
  simp [C.spec_MonomialLaurent, rows, tO, tS]
  refine wcall1 (spec_l2Right_calls ⟨e.length, [⟨e, 1⟩]⟩ (by simp) (by simp; omega)) (by simp [rows, tO, tS]) (by simp) ?_
  simp [C.spec_MonomialLaurent, rows, tO, tS]
  refine hL _ ?_; clear hL L
  refine opsI_end fun L hL => ?_
  simp [C.spec_MonomialLaurent, rows, tO, tS]
  refine hL _ ?_; clear hL L
  simp [C.spec_MonomialLaurent, rows, tO, tS]
  refine hK _ ?_; clear hK K
  show AWp _ _ _ _ _
  refine wcond _ rfl (fun hc1 => ?_) (fun hc1 => ?_)
  · have hr := nd_t hc1
    refine wseq ?_
    refine wreg fun K hK => ?_
    simp [C.spec_MonomialLaurent]
    refine hK _ ?_; clear hK K
    show AWp _ _ _ _ _
    refine wret ?_
    simp [C.spec_MonomialLaurent, monoF, hr, fO, zeroF, rows]
  · have hr := nd_f hc1
    refine wskip ?_
    show AWp _ _ _ _ _
    refine wseq ?_
    refine wreg fun K hK => ?_
    simp [C.spec_MonomialLaurent]
    refine hK _ ?_; clear hK K
    show AWp _ _ _ _ _
    refine wret ?_
    simp [C.spec_MonomialLaurent, monoF, hr, fO, rows, tO]
theorem sMono_calls (e : List Int) (hx : e.length < 17592186044416) : ACalls Try.prog F.spec_MonomialLaurent [.d (shI e)] [] true (fun outs res => outs = [] ∧ res = [.ag (fO (monoF e))]) := (spec_MonomialLaurent_calls e hx).weak1

theorem impl_MonomialLaurent_calls (e : List Int) (hx : e.length < 17592186044416) : ACalls Try.prog F.impl_MonomialLaurent [.d (shI e)] [] true (fun outs res => outs = [] ∧ WkRs res [.ag (fO (monoF e))]) := by
  refine ACalls.of_body (C := C.impl_MonomialLaurent) (n := Try.f153.ntmps) tabT folT Try.func153 rfl (by kernel_rfl) rfl (Nat.le_of_ble_eq_true rfl) (by decide) (by kernel_rfl) (by kernel_rfl) rfl (by simp) (by simp) ?_
  simp only [Try.f153]
  refine wseq ?_
  refine wreg fun K hK => ?_
  simp [C.impl_MonomialLaurent]
  refine hK _ ?_; clear hK K
  show AWp _ _ _ _ _
  refine wseq ?_
  refine wseq ?_
  refine wregI ([0, 1, 2] ++ ([3, 4, 5, 6, 7, 8] ++ ([9, 10]))) rfl fun K hK => ?_
  have hJ : K ⟨ofL [(0, .d (shI e)), (2, .pt (2, 0) [] 0), (13, .bool (!decide ((1 ≤ (e.length : Int) ∧ (e.length : Int) ≤ 8) ∧ okE e e.length = true)))], ofRO [((2, 0), some (.bx [D.int 0, .v (.slice none 0 0)]))]⟩ := by
    refine hK _ ?_; clear hK K
    show AWp _ _ _ _ _
    refine wcond _ rfl (fun hc1 => ?_) (fun hc1 => ?_)
    · have hr : ¬ Right ⟨e.length, [⟨e, 1⟩]⟩ := fun h => nd_t hc1 (mono_right.1 h)
      refine wseq ?_
      refine wreg fun K hK => ?_
      simp [C.impl_MonomialLaurent]
      refine hK _ ?_; clear hK K
      show AWp _ _ _ _ _
      refine wret ?_
      simp [C.impl_MonomialLaurent, monoF, hr, fO, zeroF, rows]
    · have hr : Right ⟨e.length, [⟨e, 1⟩]⟩ := mono_right.2 (nd_f hc1)
      refine wskip ?_
      show AWp _ _ _ _ _
      refine wseq ?_
      refine wregI ([0, 1, 2, 3] ++ ([4, 5, 6, 7])) rfl fun K hK => ?_
      refine opsI_seg fun L hL => ?_
      simp [C.impl_MonomialLaurent]
      refine wcall1 (clone_calls e hx) (by simp) (by simp) ?_
      simp [C.impl_MonomialLaurent]
      refine hL _ ?_; clear hL L
      refine opsI_end fun L hL => ?_
      simp [C.impl_MonomialLaurent]
      refine hL _ ?_; clear hL L
      simp [C.impl_MonomialLaurent]
      refine hK _ ?_; clear hK K
      show AWp _ _ _ _ _
      refine wret ?_
      simp [C.impl_MonomialLaurent, monoF, hr, fO, rows, tO]
  clear hK
  by_cases ha : 1 ≤ (e.length : Int) ∧ (e.length : Int) ≤ 8
  · refine opsI_seg fun L hL => ?_
    simp [C.impl_MonomialLaurent, ha]
    refine wcall1 (impl_within_calls e.length 1 8) (by simp) (by simp) ?_
    simp [C.impl_MonomialLaurent, ha]
    refine hL _ ?_; clear hL L
    refine opsI_seg fun L hL => ?_
    simp [C.impl_MonomialLaurent, ha]
    refine wcall1 (impl_expOk_calls e e.length (by omega)) (by simp) (by simp) ?_
    simp [C.impl_MonomialLaurent, ha]
    refine hL _ ?_; clear hL L
    refine opsI_end fun L hL => ?_
    simp [C.impl_MonomialLaurent, ha]
    refine hL _ ?_; clear hL L
    simp [C.impl_MonomialLaurent, ha]
    refine cast (congrArg K ?_) hJ
    simp [Bool.not_and, ha]
  · refine opsI_seg fun L hL => ?_
    simp [C.impl_MonomialLaurent, ha]
    refine wcall1 (impl_within_calls e.length 1 8) (by simp) (by simp) ?_
    simp [C.impl_MonomialLaurent, ha]
    refine hL _ ?_; clear hL L
    refine opsI_seg fun L hL => ?_
    simp [C.impl_MonomialLaurent, ha]
    refine hL _ ?_; clear hL L
    refine opsI_end fun L hL => ?_
    simp [C.impl_MonomialLaurent, ha]
    refine hL _ ?_; clear hL L
    simp [C.impl_MonomialLaurent, ha]
    refine cast (congrArg K ?_) hJ
    simp [Bool.not_and, ha]
theorem iMono_calls (e : List Int) (hx : e.length < 17592186044416) : ACalls Try.prog F.impl_MonomialLaurent [.d (shI e)] [] true (fun outs res => outs = [] ∧ res = [.ag (fO (monoF e))]) := (impl_MonomialLaurent_calls e hx).weak1

theorem spec_l3Initial_calls (n : Int) (r : Nat) (d : List Int) (hr : r ≤ 8) (hx : d.length < 17592186044416) : ACalls Try.prog F.spec_l3Initial [.ag [.int n, .int r, .d (shI d)]] [] true (fun outs res => outs = [] ∧ res = [.ag (sO ⟨⟨n, r, d⟩, varsL r⟩)]) := by
  refine ACalls.of_body (C := C.spec_l3Initial) (n := Try.f76.ntmps) tabT folT Try.func76 rfl (by kernel_rfl) rfl (Nat.le_of_ble_eq_true rfl) (by decide) (by kernel_rfl) (by kernel_rfl) rfl (by simp) (by simp) ?_
  simp only [Try.f76]
  refine wseq ?_
  refine wreg fun K hK => ?_
  simp [C.spec_l3Initial]
  refine hK _ ?_; clear hK K
  show AWp _ _ _ _ _
  refine wseq ?_
  refine wregI ([0, 1] ++ ([2, 3, 4])) rfl fun K hK => ?_
  refine opsI_seg fun L hL => ?_
  simp [C.spec_l3Initial, mO]
  refine wcall1 (spec_l1CopyMatrix_calls ⟨n, r, d⟩ hx) (by simp) (by simp) ?_
  simp [C.spec_l3Initial, mO]
  refine hL _ ?_; clear hL L
  refine opsI_end fun L hL => ?_
  simp [C.spec_l3Initial, mO]
  refine hL _ ?_; clear hL L
  simp [C.spec_l3Initial, mO]
  refine hK _ ?_; clear hK K
  show AWp _ _ _ _ _
  refine wseq ?_
  refine wseq ?_
  refine wreg fun K hK => ?_
  simp [C.spec_l3Initial]
  refine hK _ ?_; clear hK K
  show AWp _ _ _ _ _
  refine wblock ?_
  refine wloopW (fun x : Nat × List Lau => ⟨ofL [(1, .pt (1, 0) [] 0), (2, .pt (2, 0) [] 0), (3, .pt (3, 0) [] 0), (4, .int x.1)], ofRO [((1, 0), some (.bx [D.int n, D.int r, shI d])), ((2, 0), some (.bx [D.int 0, D.int 0, .v (.slice none 0 0), .v (.slice none 0 0)])), ((3, 0), some (.bx [D.int n, D.int r, owI d, .ow 2 x.1 (rows fO x.2)]))]⟩) (fun x => x.1 ≤ r ∧ x.2 = (List.range x.1).map fun i => monoF (unitL r i)) (fun x => r - x.1) (0, []) [.cell (3, 0) [] 3 2] (by simp [C.spec_l3Initial, rows]; constructor <;> funext t <;> simp only [ofL, ofRO] <;> (repeat' (first | rfl | split)) <;> simp_all) (by simp) ?_
  intro x1 hx1 R1 hR1
  obtain ⟨j, gs⟩ := x1
  obtain ⟨hj, hg⟩ := hx1
  dsimp only at hj hg ⊢
  refine wseq ?_
  refine wseq ?_
  refine wreg fun K hK => ?_
  simp [C.spec_l3Initial]
  refine hK _ ?_; clear hK K
  show AWp _ _ _ _ _
  refine wcond _ rfl (fun hc1 => ?_) (fun hc1 => ?_)
  · have h1 : j < r := by have := d_t hc1; omega
    have hgl : gs.length = j := by rw [hg]; simp
    refine wskip ?_
    show AWp _ _ _ _ _
    refine wseq ?_
    refine wblock ?_
    refine wdrawI [(true, 0), (true, 1), (true, 2), (true, 3), (true, 4), (false, 5), (false, 6), (false, 7), (false, 8), (true, 9), (false, 10)] ⟨by kernel_rfl, by kernel_rfl⟩ ([0, 1, 2, 3, 4, 5] ++ ([6] ++ ([7, 8, 9, 10]))) rfl fun K hK => ?_
    refine opsI_seg fun L hL => ?_
    simp [C.spec_l3Initial, fO, fO_snoc, show (j + 1) * 32 ≤ 140737488355328 by omega]
    refine wcall1 (spec_l3Unit_calls r j hr h1) (by simp) (by simp) ?_
    simp [C.spec_l3Initial, fO, fO_snoc, show (j + 1) * 32 ≤ 140737488355328 by omega]
    refine hL _ ?_; clear hL L
    refine opsI_seg fun L hL => ?_
    simp [C.spec_l3Initial, fO, fO_snoc, show (j + 1) * 32 ≤ 140737488355328 by omega]
    refine wcall1 (sMono_calls (unitL r j) (by rw [unitL_length]; omega)) (by simp) (by simp) ?_
    simp [C.spec_l3Initial, fO, fO_snoc, show (j + 1) * 32 ≤ 140737488355328 by omega]
    refine hL _ ?_; clear hL L
    refine opsI_end fun L hL => ?_
    simp [C.spec_l3Initial, fO, fO_snoc, show (j + 1) * 32 ≤ 140737488355328 by omega]
    refine hL _ ?_; clear hL L
    simp [C.spec_l3Initial, fO, fO_snoc, show (j + 1) * 32 ≤ 140737488355328 by omega]
    refine hK _ ?_; clear hK K
    show AWp _ _ _ _ _
    refine wreg fun K hK => ?_
    simp [C.spec_l3Initial, wrap_succ (show j < 4611686018427387904 by omega)]
    refine hK _ ?_; clear hK K
    simp [C.spec_l3Initial]
    refine hR1 (j + 1, _) ⟨h1, ?_⟩ (by dsimp only; omega)
    dsimp only
    rw [hg, List.range_succ, List.map_append]
    rfl
  · have h1 : j = r := by have := d_f hc1; omega
    subst h1
    refine wexit ?_
    show AWp _ _ _ _ _
    refine wseq ?_
    refine wreg fun K hK => ?_
    simp [C.spec_l3Initial]
    refine hK _ ?_; clear hK K
    show AWp _ _ _ _ _
    refine wret ?_
    simp [C.spec_l3Initial, hg, sO, varsL]

abbrev m0 : Mat := ⟨2, 2, [0, 1, -1, 0]⟩
noncomputable abbrev z0 : Ses := ⟨m0, [], ⟨m0, varsL 2⟩⟩
theorem ints0 : [D.v (.int .i64 0), D.v (.int .i64 1), D.v (.int .i64 (-1)), D.v (.int .i64 0)] = ints [0, 1, -1, 0] := rfl
theorem spec_NewSession_calls : ACalls Try.prog F.spec_NewSession [] [] true (fun outs res => outs = [] ∧ res = [.ag (zO z0)]) := by
  refine ACalls.of_body (C := C.spec_NewSession) (n := Try.f15.ntmps) tabT folT Try.func15 rfl (by kernel_rfl) rfl (Nat.le_of_ble_eq_true rfl) (by decide) (by kernel_rfl) (by kernel_rfl) rfl (by simp) (by simp) ?_
  simp only [Try.f15]
  refine wseq ?_
  refine wreg fun K hK => ?_
  simp [C.spec_NewSession]
  refine hK _ ?_; clear hK K
  show AWp _ _ _ _ _
  refine wseq ?_
  refine wreg fun K hK => ?_
  simp [C.spec_NewSession, ints0]
  refine hK _ ?_; clear hK K
  show AWp _ _ _ _ _
  refine wseq ?_
  refine wdraw (.take 0 (.take 2 (.all [(1, .all [(3, .take 4 (.all [(5, .done)]))]), (3, .all [(1, .take 4 (.all [(5, .done)]))])]))) ⟨by kernel_rfl, by kernel_rfl⟩ fun K hK => ?_
  have hJ : K ⟨ofL [(0, .pt (0, 0) [] 0)], ofRO [((0, 0), some (.bx (zO z0)))]⟩ := by
    refine hK _ ?_; clear hK K
    show AWp _ _ _ _ _
    refine wret ?_
    simp [C.spec_NewSession, zO]
  clear hK
  simp [C.spec_NewSession]
  refine ⟨?_, ?_⟩
  · refine wcall1 (spec_l3Initial_calls 2 2 [0, 1, -1, 0] (by omega) (by simp)) (by simp) (by simp) ?_
    simp [C.spec_NewSession, sO]
    refine cast (congrArg K ?_) hJ
    rfl
  · refine wcall1 (spec_l3Initial_calls 2 2 [0, 1, -1, 0] (by omega) (by simp)) (by simp) (by simp) ?_
    simp [C.spec_NewSession, sO]
    refine cast (congrArg K ?_) hJ
    rfl

theorem impl_InitialSeed_calls (n : Int) (r : Nat) (d : List Int) (hr : r ≤ 8) (hx : d.length < 17592186044416) (hok : ACalls Try.prog F.impl_MatrixOk [.ag [.int n, .int r, .d (shI d)]] [] true (fun outs res => outs = [] ∧ res = [.one (D.bool true)])) : ACalls Try.prog F.impl_InitialSeed [.ag [.int n, .int r, .d (shI d)]] [] true (fun outs res => outs = [] ∧ res = [.ag (sO ⟨⟨n, r, d⟩, varsL r⟩), .one (D.bool true)]) := by
  refine ACalls.of_body (C := C.impl_InitialSeed) (n := Try.f168.ntmps) tabT folT Try.func168 rfl (by kernel_rfl) rfl (Nat.le_of_ble_eq_true rfl) (by decide) (by kernel_rfl) (by kernel_rfl) rfl (by simp) (by simp) ?_
  simp only [Try.f168]
  refine wseq ?_
  refine wreg fun K hK => ?_
  simp [C.impl_InitialSeed]
  refine hK _ ?_; clear hK K
  show AWp _ _ _ _ _
  refine wseq ?_
  refine wseq ?_
  refine wregI ([0, 1] ++ ([2])) rfl fun K hK => ?_
  refine opsI_seg fun L hL => ?_
  simp [C.impl_InitialSeed]
  refine wcall1 (hok) (by simp) (by simp) ?_
  simp [C.impl_InitialSeed]
  refine hL _ ?_; clear hL L
  refine opsI_end fun L hL => ?_
  simp [C.impl_InitialSeed]
  refine hL _ ?_; clear hL L
  simp [C.impl_InitialSeed]
  refine hK _ ?_; clear hK K
  show AWp _ _ _ _ _
  refine wcond _ rfl (fun hc1 => ?_) (fun hc1 => ?_)
  · simp at hc1
  · refine wskip ?_
    show AWp _ _ _ _ _
    refine wseq ?_
    refine wdraw (.take 0 (.take 1 (.take 2 (.take 3 (.take 4 (.take 5 (.all [(6, .take 7 (.take 8 (.all [(9, .all [(10, .done)])]))), (9, .all [(6, .take 7 (.take 8 (.all [(10, .done)])))])]))))))) ⟨by kernel_rfl, by kernel_rfl⟩ fun K hK => ?_
    have hJ : K ⟨ofL [(1, .pt (1, 0) [] 0), (2, .pt (2, 0) [] 0), (4, .pt (4, 0) [] 0)], ofRO [((1, 0), some (.bx [D.int n, D.int r, shI d])), ((2, 0), some (.bx [D.int 0, D.int 0, .v (.slice none 0 0), .v (.slice none 0 0)])), ((4, 0), some (.bx [D.int n, D.int r, owI d, .v (.slice none 0 0)]))]⟩ := by
      refine hK _ ?_; clear hK K
      show AWp _ _ _ _ _
      refine wseq ?_
      refine wseq ?_
      refine wreg fun K hK => ?_
      simp [C.impl_InitialSeed]
      refine hK _ ?_; clear hK K
      show AWp _ _ _ _ _
      refine wblock ?_
      refine wloopW (fun x : Nat × List Lau => ⟨ofL [(1, .pt (1, 0) [] 0), (2, .pt (2, 0) [] 0), (4, .pt (4, 0) [] 0), (5, .int x.1)], ofRO [((1, 0), some (.bx [D.int n, D.int r, shI d])), ((2, 0), some (.bx [D.int 0, D.int 0, .v (.slice none 0 0), .v (.slice none 0 0)])), ((4, 0), some (.bx [D.int n, D.int r, owI d, .ow 2 x.1 (rows fO x.2)]))]⟩) (fun x => x.1 ≤ r ∧ x.2 = (List.range x.1).map fun i => monoF (unitL r i)) (fun x => r - x.1) (0, []) [.cell (4, 0) [] 3 2] (by simp [C.impl_InitialSeed, rows]; constructor <;> funext t <;> simp only [ofL, ofRO] <;> (repeat' (first | rfl | split)) <;> simp_all) (by simp) ?_
      intro x1 hx1 R1 hR1
      obtain ⟨j, gs⟩ := x1
      obtain ⟨hj, hg⟩ := hx1
      dsimp only at hj hg ⊢
      refine wseq ?_
      refine wseq ?_
      refine wreg fun K hK => ?_
      simp [C.impl_InitialSeed]
      refine hK _ ?_; clear hK K
      show AWp _ _ _ _ _
      refine wcond _ rfl (fun hc2 => ?_) (fun hc2 => ?_)
      · have h1 : j < r := by have := d_t hc2; omega
        have hgl : gs.length = j := by rw [hg]; simp
        refine wskip ?_
        show AWp _ _ _ _ _
        refine wseq ?_
        refine wblock ?_
        refine wdrawI [(true, 0), (true, 1), (true, 2), (true, 3), (true, 4), (false, 5), (false, 6), (false, 7), (false, 8), (true, 9), (false, 10)] ⟨by kernel_rfl, by kernel_rfl⟩ ([0, 1, 2, 3, 4, 5] ++ ([6] ++ ([7, 8, 9, 10]))) rfl fun K hK => ?_
        refine opsI_seg fun L hL => ?_
        simp [C.impl_InitialSeed, fO, fO_snoc, show (j + 1) * 32 ≤ 140737488355328 by omega]
        refine wcall1 (impl_unit_calls r j hr h1) (by simp) (by simp) ?_
        simp [C.impl_InitialSeed, fO, fO_snoc, show (j + 1) * 32 ≤ 140737488355328 by omega]
        refine hL _ ?_; clear hL L
        refine opsI_seg fun L hL => ?_
        simp [C.impl_InitialSeed, fO, fO_snoc, show (j + 1) * 32 ≤ 140737488355328 by omega]
        refine wcall1 (iMono_calls (unitL r j) (by rw [unitL_length]; omega)) (by simp) (by simp) ?_
        simp [C.impl_InitialSeed, fO, fO_snoc, show (j + 1) * 32 ≤ 140737488355328 by omega]
        refine hL _ ?_; clear hL L
        refine opsI_end fun L hL => ?_
        simp [C.impl_InitialSeed, fO, fO_snoc, show (j + 1) * 32 ≤ 140737488355328 by omega]
        refine hL _ ?_; clear hL L
        simp [C.impl_InitialSeed, fO, fO_snoc, show (j + 1) * 32 ≤ 140737488355328 by omega]
        refine hK _ ?_; clear hK K
        show AWp _ _ _ _ _
        refine wreg fun K hK => ?_
        simp [C.impl_InitialSeed, wrap_succ (show j < 4611686018427387904 by omega)]
        refine hK _ ?_; clear hK K
        simp [C.impl_InitialSeed]
        refine hR1 (j + 1, _) ⟨h1, ?_⟩ (by dsimp only; omega)
        dsimp only
        rw [hg, List.range_succ, List.map_append]
        rfl
      · have h1 : j = r := by have := d_f hc2; omega
        subst h1
        refine wexit ?_
        show AWp _ _ _ _ _
        refine wseq ?_
        refine wreg fun K hK => ?_
        simp [C.impl_InitialSeed]
        refine hK _ ?_; clear hK K
        show AWp _ _ _ _ _
        refine wret ?_
        simp [C.impl_InitialSeed, hg, sO, varsL]
    clear hK
    simp [C.impl_InitialSeed]
    refine ⟨?_, ?_⟩
    · refine wcall1 (clone_calls d hx) (by simp) (by simp) ?_
      simp [C.impl_InitialSeed]
      exact hJ
    · refine wcall1 (clone_calls d hx) (by simp) (by simp) ?_
      simp [C.impl_InitialSeed]
      exact hJ

theorem impl_copyLaurent_calls (f : Lau) (hl : f.ts.length ≤ 1000000) (he : ∀ t ∈ f.ts, t.e.length < 17592186044416) : ACalls Try.prog F.impl_copyLaurent [aF f] [] true (fun outs res => outs = [] ∧ res = [.ag (fO f)]) := by
  refine ACalls.of_body (C := C.impl_copyLaurent) (n := Try.f218.ntmps) tabT folT Try.func218 rfl (by kernel_rfl) rfl (Nat.le_of_ble_eq_true rfl) (by decide) (by kernel_rfl) (by kernel_rfl) rfl (by simp) (by simp) ?_
  simp only [Try.f218]
  refine wseq ?_
  refine wreg fun K hK => ?_
  simp [C.impl_copyLaurent]
  refine hK _ ?_; clear hK K
  show AWp _ _ _ _ _
  refine wseq ?_
  refine wreg fun K hK => ?_
  simp [C.impl_copyLaurent]
  refine hK _ ?_; clear hK K
  show AWp _ _ _ _ _
  refine wseq ?_
  refine wseq ?_
  refine wreg fun K hK => ?_
  simp [C.impl_copyLaurent]
  refine hK _ ?_; clear hK K
  show AWp _ _ _ _ _
  refine wblock ?_
  refine wloopW (fun x : Nat × List Trm => ⟨ofL [(2, .pt (2, 0) [] 0), (3, .pt (3, 0) [] 0), (10, .d (.sh 2 f.ts.length (rows tS f.ts))), (11, .int f.ts.length), (12, .int x.1)], ofRO [((2, 0), some (.bx [D.int 0, .v (.slice none 0 0)])), ((3, 0), some (.bx [D.int f.v, .ow 2 x.1 (rows tO x.2)]))]⟩) (fun x => x.1 ≤ f.ts.length ∧ x.2 = f.ts.take x.1) (fun x => f.ts.length - x.1) (0, []) [.cell (3, 0) [] 1 2] (by simp [C.impl_copyLaurent, rows]; constructor <;> funext t <;> simp only [ofL, ofRO] <;> (repeat' (first | rfl | split)) <;> simp_all) (by simp) ?_
  intro x1 hx1 R1 hR1
  obtain ⟨j, gs⟩ := x1
  obtain ⟨hj, hg⟩ := hx1
  dsimp only at hj hg ⊢
  refine wseq ?_
  refine wreg fun K hK => ?_
  simp [C.impl_copyLaurent]
  refine hK _ ?_; clear hK K
  show AWp _ _ _ _ _
  refine wseq ?_
  refine wcond _ rfl (fun hc1 => ?_) (fun hc1 => ?_)
  · have h1 : j < f.ts.length := by have := d_t hc1; omega
    have hgl : gs.length = j := by rw [hg]; simp; omega
    refine wskip ?_
    show AWp _ _ _ _ _
    refine wseq ?_
    refine wblock ?_
    refine wseq ?_
    refine wreg fun K hK => ?_
    simp [C.impl_copyLaurent, h1, tS_0 h1, tS_1 h1]
    refine hK _ ?_; clear hK K
    show AWp _ _ _ _ _
    refine wdrawI [(true, 0), (true, 1), (true, 2), (true, 3), (true, 5), (true, 6), (false, 4), (true, 7), (false, 8), (false, 9), (true, 10), (false, 11)] ⟨by kernel_rfl, by kernel_rfl⟩ ([0, 1, 2, 3, 5, 6, 4] ++ ([7, 8, 9, 10, 11])) rfl fun K hK => ?_
    refine opsI_seg fun L hL => ?_
    simp [C.impl_copyLaurent, h1, tO_snoc, show (j + 1) * 32 ≤ 140737488355328 by omega]
    refine wcall1 (clone_calls f.ts[j].e (he _ (List.getElem_mem h1))) (by simp) (by simp) ?_
    simp [C.impl_copyLaurent, h1, tO_snoc, show (j + 1) * 32 ≤ 140737488355328 by omega]
    refine hL _ ?_; clear hL L
    refine opsI_end fun L hL => ?_
    simp [C.impl_copyLaurent, h1, tO_snoc, show (j + 1) * 32 ≤ 140737488355328 by omega]
    refine hL _ ?_; clear hL L
    simp [C.impl_copyLaurent, h1, tO_snoc, show (j + 1) * 32 ≤ 140737488355328 by omega]
    refine hK _ ?_; clear hK K
    show AWp _ _ _ _ _
    refine wreg fun K hK => ?_
    simp [C.impl_copyLaurent, wrap_succ (show j < 4611686018427387904 by omega)]
    refine hK _ ?_; clear hK K
    simp [C.impl_copyLaurent]
    refine hR1 (j + 1, _) ⟨h1, ?_⟩ (by dsimp only; omega)
    dsimp only
    rw [hg, List.take_succ_eq_append_getElem h1]
  · have h1 : j = f.ts.length := by have := d_f hc1; omega
    refine wexit ?_
    show AWp _ _ _ _ _
    refine wseq ?_
    refine wreg fun K hK => ?_
    simp [C.impl_copyLaurent]
    refine hK _ ?_; clear hK K
    show AWp _ _ _ _ _
    refine wret ?_
    simp [C.impl_copyLaurent, hg, h1, fO]

theorem impl_copySeed_calls (s : Sed) (hx : s.m.d.length < 17592186044416) (hl : s.f.length ≤ 1000000) (hf : ∀ f ∈ s.f, f.ts.length ≤ 1000000 ∧ ∀ t ∈ f.ts, t.e.length < 17592186044416) : ACalls Try.prog F.impl_copySeed [aS s] [] true (fun outs res => outs = [] ∧ res = [.ag (sO s)]) := by
  refine ACalls.of_body (C := C.impl_copySeed) (n := Try.f169.ntmps) tabT folT Try.func169 rfl (by kernel_rfl) rfl (Nat.le_of_ble_eq_true rfl) (by decide) (by kernel_rfl) (by kernel_rfl) rfl (by simp) (by simp) ?_
  simp only [Try.f169]
  refine wseq ?_
  refine wreg fun K hK => ?_
  simp [C.impl_copySeed, sS]
  refine hK _ ?_; clear hK K
  show AWp _ _ _ _ _
  refine wseq ?_
  refine wdraw (.take 0 (.take 1 (.take 2 (.take 3 (.take 4 (.take 5 (.take 6 (.take 7 (.take 8 (.all [(9, .take 10 (.take 11 (.all [(12, .all [(13, .done)])]))), (12, .all [(9, .take 10 (.take 11 (.all [(13, .done)])))])])))))))))) ⟨by kernel_rfl, by kernel_rfl⟩ fun K hK => ?_
  have hJ : K ⟨ofL [(1, .pt (1, 0) [] 0), (2, .pt (2, 0) [] 0), (3, .pt (3, 0) [] 0)], ofRO [((1, 0), some (.bx (sS s))), ((2, 0), some (.bx [D.int 0, D.int 0, .v (.slice none 0 0), .v (.slice none 0 0)])), ((3, 0), some (.bx [D.int s.m.n, D.int s.m.r, owI s.m.d, .v (.slice none 0 0)]))]⟩ := by
    refine hK _ ?_; clear hK K
    show AWp _ _ _ _ _
    refine wseq ?_
    refine wseq ?_
    refine wreg fun K hK => ?_
    simp [C.impl_copySeed, sS]
    refine hK _ ?_; clear hK K
    show AWp _ _ _ _ _
    refine wblock ?_
    refine wloopW (fun x : Nat × List Lau => ⟨ofL [(2, .pt (2, 0) [] 0), (3, .pt (3, 0) [] 0), (19, .d (.sh 2 s.f.length (rows fS s.f))), (20, .int s.f.length), (21, .int x.1)], ofRO [((2, 0), some (.bx [D.int 0, D.int 0, .v (.slice none 0 0), .v (.slice none 0 0)])), ((3, 0), some (.bx [D.int s.m.n, D.int s.m.r, owI s.m.d, .ow 2 x.1 (rows fO x.2)]))]⟩) (fun x => x.1 ≤ s.f.length ∧ x.2 = s.f.take x.1) (fun x => s.f.length - x.1) (0, []) [.cell (3, 0) [] 3 2] (by simp [C.impl_copySeed, rows]; constructor <;> funext t <;> simp only [ofL, ofRO] <;> (repeat' (first | rfl | split)) <;> simp_all) (by simp) ?_
    intro x1 hx1 R1 hR1
    obtain ⟨j, gs⟩ := x1
    obtain ⟨hj, hg⟩ := hx1
    dsimp only at hj hg ⊢
    refine wseq ?_
    refine wreg fun K hK => ?_
    simp [C.impl_copySeed, sS]
    refine hK _ ?_; clear hK K
    show AWp _ _ _ _ _
    refine wseq ?_
    refine wcond _ rfl (fun hc1 => ?_) (fun hc1 => ?_)
    · have h1 : j < s.f.length := by have := d_t hc1; omega
      have hgl : gs.length = j := by rw [hg]; simp; omega
      refine wskip ?_
      show AWp _ _ _ _ _
      refine wseq ?_
      refine wblock ?_
      refine wseq ?_
      refine wreg fun K hK => ?_
      simp [C.impl_copySeed, sS, h1, fS_0 h1, fS_1 h1]
      refine hK _ ?_; clear hK K
      show AWp _ _ _ _ _
      refine wdrawI [(true, 0), (true, 1), (true, 2), (false, 3), (false, 4), (false, 5), (true, 6), (false, 7)] ⟨by kernel_rfl, by kernel_rfl⟩ ([0, 1, 2, 3] ++ ([4, 5, 6, 7])) rfl fun K hK => ?_
      refine opsI_seg fun L hL => ?_
      simp [C.impl_copySeed, sS, h1, fO, fO_snoc, show (j + 1) * 32 ≤ 140737488355328 by omega]
      refine wcall1 (impl_copyLaurent_calls s.f[j] (hf _ (List.getElem_mem h1)).1 (hf _ (List.getElem_mem h1)).2) (by simp) (by simp) ?_
      simp [C.impl_copySeed, sS, h1, fO, fO_snoc, show (j + 1) * 32 ≤ 140737488355328 by omega]
      refine hL _ ?_; clear hL L
      refine opsI_end fun L hL => ?_
      simp [C.impl_copySeed, sS, h1, fO, fO_snoc, show (j + 1) * 32 ≤ 140737488355328 by omega]
      refine hL _ ?_; clear hL L
      simp [C.impl_copySeed, sS, h1, fO, fO_snoc, show (j + 1) * 32 ≤ 140737488355328 by omega]
      refine hK _ ?_; clear hK K
      show AWp _ _ _ _ _
      refine wreg fun K hK => ?_
      simp [C.impl_copySeed, sS, wrap_succ (show j < 4611686018427387904 by omega)]
      refine hK _ ?_; clear hK K
      simp [C.impl_copySeed, sS]
      refine hR1 (j + 1, _) ⟨h1, ?_⟩ (by dsimp only; omega)
      dsimp only
      rw [hg, List.take_succ_eq_append_getElem h1]
    · have h1 : j = s.f.length := by have := d_f hc1; omega
      refine wexit ?_
      show AWp _ _ _ _ _
      refine wseq ?_
      refine wreg fun K hK => ?_
      simp [C.impl_copySeed, sS]
      refine hK _ ?_; clear hK K
      show AWp _ _ _ _ _
      refine wret ?_
      simp [C.impl_copySeed, sS, hg, h1, sO]
  clear hK
  simp [C.impl_copySeed]
  refine ⟨?_, ?_⟩
  · refine wcall1 (clone_calls s.m.d hx) (by simp) (by simp) ?_
    simp [C.impl_copySeed]
    exact hJ
  · refine wcall1 (clone_calls s.m.d hx) (by simp) (by simp) ?_
    simp [C.impl_copySeed]
    exact hJ

end Go.Proofs.Ytdgeponcnlkaiaa.Ab
