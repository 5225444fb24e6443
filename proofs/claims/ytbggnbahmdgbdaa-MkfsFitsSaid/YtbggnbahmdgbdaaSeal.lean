/- THE WALKS of seal's Sum and Seal. -/
import Derived.Test.YtbggnbahmdgbdaaBase
import Derived.Test.YtbggnbahmdgbdaaCopy
import Derived.Test.YtbggnbahmdgbdaaApp
namespace Go.Sl
open Go
def sum1 (r x : Int) : Int := bits BinOp.xor IntKind.u32 r (x % 4294967296) * 16777619 % 4294967296
def sumF (n : Int) : Int := bits BinOp.xor IntKind.u32 (bits BinOp.xor IntKind.u32 n (n / 32768) * 2246822507 % 4294967296) (bits BinOp.xor IntKind.u32 n (n / 32768) * 2246822507 % 4294967296 / 8192)
def sumL (xs : List Int) : Int := sumF (xs.foldl sum1 2166136261)
def zs (n : Nat) : List Int := List.replicate n 0
def sealB (k : Int) (b : List Int) : List Int := [k] ++ b ++ zs (123 - b.length)
def sumB (s : Int) : List Int := [s / 16777216 % 256, s / 65536 % 256, s / 256 % 256, s % 256]
def sealL (k : Int) (b : List Int) : List Int := sealB k b ++ sumB (sumL (sealB k b))
theorem sealB_len {k : Int} {b : List Int} (h : b.length ≤ 123) : (sealB k b).length = 124 := by simp [sealB, zs]; omega
theorem sealL_len {k : Int} {b : List Int} (h : b.length ≤ 123) : (sealL k b).length = 128 := by rw [sealL, List.length_append, sealB_len h]; rfl
end Go.Sl
namespace Go.Proofs.Ytbggnbahmdgbdaa
open Go.RowKit Go.Own Go.Sl
theorem fold_snoc (xs : List Int) (k : Nat) (h : k < xs.length) : (xs.take (k + 1)).foldl sum1 2166136261 = sum1 ((xs.take k).foldl sum1 2166136261) xs[k] := by
  rw [List.take_succ_eq_append_getElem h, List.foldl_append]; rfl
set_option maxRecDepth 100000 in
set_option maxHeartbeats 4000000 in
theorem sSum (v : Value) (xs : List Int) (w : World) (hr : Rd w v 1 xs.length (bc xs)) (hl : xs.length ≤ 1000000) :
    Calls Try.prog 70 #[v] w fun e w' => e = .returned (.int .u32 (sumL xs)) ∧ w = w' := by
  obtain ⟨p, c, rfl, -, -, hcs⟩ := hr.form
  have HC := hid hcs
  clear hcs hr
  go_enter Try.func70, Try.ntmps70
  go_wp2_with fail
  go_loopw [3, 8] (fun s i w' => ∃ k : Nat, ∃ n : Int, k ≤ xs.length ∧ i = .int .i64 k ∧ s = .int .u32 n ∧ Hid ((xs.take k).foldl sum1 2166136261 = n) ∧ w = w') (fun _ i _ => xs.length - (intOf i).toNat)
  case atStart => exact ⟨0, _, by omega, rfl, rfl, hid rfl, rfl⟩
  case round =>
    obtain ⟨k, n, hk, rfl, rfl, HN, rfl⟩ := hrel
    by_cases hlt : k < xs.length
    · have hki : (k : Int) < (xs.length : Int) := by omega
      obtain ⟨g, o, rfl, hc⟩ := HC.out (by omega)
      have hx := hc k (by omega)
      rw [bc, List.getElem?_map, List.getElem?_eq_getElem hlt, Option.map_some] at hx
      have HS := hid (fold_snoc xs k hlt)
      clear hc
      generalize xs[k] = x at *
      go_wp2_with fail
      exact ⟨⟨k + 1, _, by omega, rfl, rfl, hid (by rw [HS.out, HN.out]; rfl), by trivial⟩, by simp [intOf]; omega⟩
    · have hki : ¬ (k : Int) < (xs.length : Int) := by omega
      have e : xs.foldl sum1 2166136261 = n := by have := HN.out; rwa [List.take_of_length_le (by omega)] at this
      have HE := hid (show sumL xs = sumF n by rw [sumL, e])
      clear e HN
      go_wp2_with fail
      go_ret
      exact ⟨by rw [HE.out]; rfl, rfl⟩
def zerosS : Array Value := (List.replicate 128 (Value.int .u8 0)).toArray
set_option maxRecDepth 100000 in
theorem make124 (w : World) : (Instr.makeSlice 35 (.int .i64 124) (.int .i64 128)).run Try.prog w = .ok (.slice (some ⟨w.heap.size, 0, none⟩) 124 128) (w.alloc (.cells zerosS 5)) := by
  obtain ⟨i, hi, hz, hsz, hby⟩ := info_parts infoU8
  have hr := run_make (P := Try.prog) w 35 5 i (.int .u8 0) Try.underlying35 hi hz .i64 .i64 124 128 (by omega) (by omega) (by rw [hby]; omega) (by omega)
  rw [hr]
  congr 3
  apply Array.toList_inj.1
  rw [hsz, Nat.mul_one]
  exact toList_madeCells_one _ _
theorem made124 {w : World} {L : List HP} (h : Has w L) : Has (w.alloc (.cells zerosS 5)) (row (.slice (some ⟨w.heap.size, 0, none⟩) 124 128) 5 1 124 (bc (zs 124)) :: L) :=
  (h.alloc _).row_of (by omega) (le_maxLen (by omega)) rfl rfl rfl
theorem bytesLit {w : World} {L : List HP} {b : Nat} {C : Array Value} (xs : List Int) (h : Has w (pt b (.cells C 5) :: L)) (hc : C = (bc xs).toArray) (hl : xs.length ≤ 1000000000) : Has w (Bytes (.slice (some ⟨b, 0, none⟩) xs.length xs.length) xs :: L) :=
  h.row_of (Nat.le_refl _) (le_maxLen (by omega)) (by subst hc; simp [bc]) (by subst hc; rw [Nat.mul_one]; show (bc xs).take xs.length = bc xs; exact List.take_of_length_le (by rw [bc_len]; exact Nat.le_refl _)) (by simp [bc])
theorem seal_laid (k : Int) (b : List Int) (h : b.length ≤ 123) : ((bc (zs 124)).set 0 (.int .u8 k)).take 1 ++ ((bc b).take b.length ++ ((bc (zs 124)).set 0 (.int .u8 k)).drop (1 + b.length)) = bc (sealB k b) := by
  rw [← List.append_assoc, List.take_of_length_le (l := bc b) (by rw [bc_len]; exact Nat.le_refl _)]
  have e : (bc (zs 124)).set 0 (.int .u8 k) = bc (k :: zs 123) := rfl
  rw [e]
  simp only [bc, sealB, List.map_append, List.map_cons, List.map_nil, List.take_succ_cons, List.take_zero]
  congr 1
  rw [Nat.add_comm 1, List.drop_succ_cons]
  simp only [zs, List.map_replicate, List.drop_replicate]
set_option maxRecDepth 100000 in
set_option maxHeartbeats 4000000 in
theorem sSeal (k : Int) (v : Value) (b : List Int) (w : World) (L : List HP) (hk : k ≠ 0) (hl : b.length ≤ 123) (hr : ∀ w', Has w' L → Rd w' v 1 b.length (bc b)) (hO : Has w L) :
    Calls Try.prog 57 #[.int .u8 k, v] w fun e w' => ∃ v', e = .returned (.tuple #[v', .int .i64 0]) ∧ Has w' (Bytes v' (sealL k b) :: L) ∧ Keep w w' := by
  obtain ⟨p, c, rfl, -⟩ := (hr w hO).form
  have hmk := make124 w
  have HP := hid (made124 hO)
  have HR := hid hr
  have HK := hid ((Keep.refl w).alloc (.cells zerosS 5))
  have hk0 : (k == 0) = false := by simpa using hk
  have hli : ¬ (123 : Int) < (b.length : Int) := by omega
  clear hr hk
  have ht := HP.out.row_cells.2.2.1
  have hc : (w.alloc (.cells zerosS 5)).cell? ⟨w.heap.size, 0, none⟩ = some (.int .u8 0) := HP.out.row_cells.2.1 0 (by omega)
  have HS := hid (show Has (w.alloc (.cells (zerosS.setIfInBounds 0 (.int .u8 k)) 5)) (row (.slice (some ⟨w.heap.size, 0, none⟩) 124 128) 5 1 124 ((bc (zs 124)).set 0 (.int .u8 k)) :: L) from (hO.alloc _).row_of (by omega) (le_maxLen (by omega)) rfl rfl rfl)
  have HKS := hid ((Keep.refl w).alloc (.cells (zerosS.setIfInBounds 0 (.int .u8 k)) 5))
  clear hO
  go_enter Try.func57, Try.ntmps57
  go_upto_region 5 with fail
  clear hc ht hmk HP HK
  generalize w.alloc (.cells (zerosS.setIfInBounds 0 (.int .u8 k)) 5) = w1 at *
  generalize w.heap.size = g at *
  go_wp2_with (with_reducible refine wpList_copy rfl _ _ _ _ rfl Try.underlying35 (by kernel_rfl) HS.out 123 127 c p rfl rfl (HR.out w1 HS.out.drop) (bc_one _) (by omega) ?_)
  intro w2 h2 hk2
  rw [seal_laid k b hl] at h2
  have HO2 := hid h2
  have HK2 := hid (HKS.out.trans hk2)
  clear h2 hk2 HS HKS
  have hln := sealB_len (k := k) hl
  have HLN := hid hln
  clear hln
  generalize hsb : sealB k b = sb at *
  have HSB := hid hsb
  clear hsb
  have HO2' := hid (show Has w2 (Bytes (.slice (some ⟨g, 0, none⟩) 124 128) sb :: L) from by unfold Bytes; rw [HLN.out]; exact HO2.out)
  go_wp2_with fail
  refine (sSum _ sb w2 (Bytes.rd HO2'.out) (by rw [HLN.out]; omega)).mono ?_
  rintro e w' ⟨rfl, rfl⟩
  try dsimp only
  have HO3 := hid (show Has (w2.alloc (.cells #[.int .u8 (sumL sb / 16777216 % 256), .int .u8 (sumL sb / 65536 % 256), .int .u8 (sumL sb / 256 % 256), .int .u8 (sumL sb % 256)] 5)) (pt w2.heap.size (.cells (bc (sumB (sumL sb))).toArray 5) :: row (.slice (some ⟨g, 0, none⟩) 124 128) 5 1 124 (bc sb) :: L) from HO2.out.alloc _)
  have HK3 := hid (HK2.out.alloc (.cells #[.int .u8 (sumL sb / 16777216 % 256), .int .u8 (sumL sb / 65536 % 256), .int .u8 (sumL sb / 256 % 256), .int .u8 (sumL sb % 256)] 5))
  have HRD := hid (Bytes.rd (bytesLit (sumB (sumL sb)) HO3.out rfl (by show 4 ≤ 1000000000; omega)))
  go_wp2_with (at_builtin; refine wpList_appendA rfl _ _ _ rfl Try.underlying35 infoU8 rfl (by decide) HO3.out.p1 rfl _ 4 (bc (sumB (sumL sb))) rfl HRD.out (bc_one _) (le_maxLen (by omega)) (by omega) ?_)
  intro v4 w4 h4 hk4
  have HO4 := hid h4
  have HK4 := hid (HK3.out.trans hk4)
  clear h4 hk4 HO3 HK3 HRD HO2 HK2 HO2'
  go_wp2_with fail
  go_ret2
  refine ⟨v4, rfl, ?_, HK4.out⟩
  have h := HO4.out.p1.drop
  unfold Bytes
  rw [sealL_len hl, sealL, HSB.out]
  simpa [bc] using h
end Go.Proofs.Ytbggnbahmdgbdaa
