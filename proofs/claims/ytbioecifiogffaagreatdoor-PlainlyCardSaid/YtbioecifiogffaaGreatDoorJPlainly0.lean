/- prosekeep.Plainly: the walk. Conditions: the listed variables read as the text lays them. -/
import Derived.Test.YtbioecifiogffaaGreatDoorM11
import Derived.Deep.CutBlock
import Derived.Deep.DeepCutAuto
set_option linter.unusedVariables false
set_option linter.unusedSimpArgs false
namespace Go.Proofs.YtbioecifiogffaaGreatDoor
open Go.RowKit
theorem word_snoc {A : ByteArray} {s : ByteArray} {j : Nat} (hA : word A.data.toList) (hj : j < s.size) (h1 : 97 ≤ (s[j]'hj).toNat) (h2 : (s[j]'hj).toNat ≤ 122) : word (A ++ s.extract j (j + 1)).data.toList := by
  have e : (s.extract j (j + 1)).data.toList = [s[j]'hj] := by
    rw [ext_list]
    have := drop_lt hj
    rw [this]
    simp
  have : (A ++ s.extract j (j + 1)).data.toList = A.data.toList ++ [s[j]'hj] := by rw [← e]; simp
  rw [this]
  exact ⟨by simp, fun c hc => by
    rcases List.mem_append.1 hc with hc | hc
    · exact hA.2 c hc
    · rw [List.mem_singleton.1 hc]; exact ⟨h1, h2⟩⟩
theorem ba_of2 (A : ByteArray) : (⟨A.data.toList.toArray⟩ : ByteArray) = A := rfl
def Pg (aL aI aS : Addr) (w : World) (T P : ByteArray) : Prop := ∀ W : World, Fresh w W → Calls Tryz.prog 12 #[.agg #[.string T, .slice none 0 0, .int .i64 0, .bool false], .agg #[.slice none 0 0, .int .i64 0, .int .i64 0, .int .i64 0], .int .i64 0] W fun e w' => ∃ (n o m rd : Nat) (nn : Bool), e = .returned (.agg #[.int .i64 0, .int .i64 n, .int .i64 P.size, .string P, .int .i64 o, .int .i64 m, .bool nn, .int .i64 rd]) ∧ Fresh W w'
theorem pg_any (aL aI aS : Addr) (w : World) (hV : LaidVars aL aI aS w) (hG : Gl w) (T P : ByteArray) (l p : List UInt8) (hT : T.data.toList = l) (hs : l.length ≤ 1048576) (h : (comeL l [] 0 false).err = 0 ∧ pgL (comeL l [] 0 false) = p) (hP : (⟨p.toArray⟩ : ByteArray) = P) : Pg aL aI aS w T P := by
  intro W hF
  have hs2 : T.size ≤ 1048576 := by rw [← hT] at hs; simpa using hs
  refine (fine_any aL aI aS W (hV.fresh hF) (hG.fresh hF) T hs2 (.slice none 0 0) [] (ints_nil W) (by simp) 0 _ rfl P (by rw [hT, h.2, hP])).mono ?_
  rintro e w' ⟨n, o, m, rd, nn, rfl, -, hk⟩
  rw [hT, h.1]
  exact ⟨n, o, m, rd, nn, rfl, hk⟩
set_option maxHeartbeats 8000000 in
set_option maxRecDepth 1000000 in
theorem Plainly_any (aL aI aS : Addr) (w : World) (hV : LaidVars aL aI aS w) (hG : Gl w) (s : ByteArray) (hm : s.size ≤ maxLen) :
    Calls Tryz.prog 9 #[.string s] w fun e w' => e = .returned (.bool true) ∧ Fresh w w' := by
  unfold maxLen at hm
  have HV := Lib.hid hV
  have HG := Lib.hid hG
  clear hV hG
  go_enter Tryz.func9, Tryz.ntmps9
  go_upto_block 0 with fail
  go_cut [3] (fun v wr => ∃ A : ByteArray, v = .string A ∧ A.size ≤ 40 ∧ word A.data.toList ∧ wr = w)
  case first =>
    go_wp2
    go_loopw [3, 4] (fun v i wr => ∃ (j : Nat) (A : ByteArray), i = .int .i64 j ∧ v = .string A ∧ j ≤ s.size ∧ A.size ≤ 40 ∧ word A.data.toList ∧ wr = w) (fun _ i _ => s.size - (intOf i).toNat)
    case atStart => exact ⟨0, ⟨#[119]⟩, rfl, rfl, Nat.zero_le _, by decide, ⟨by decide, by decide⟩, rfl⟩
    case round =>
      obtain ⟨j, A, rfl, rfl, hj, hA, hwd, rfl⟩ := hrel
      have HWD := Lib.hid hwd
      clear hwd
      by_cases hlt : j < s.size
      · by_cases h40 : A.size < 40
        · have i40 : (A.size : Int) < 40 := by omega
          by_cases ha : 97 ≤ (s[j]'hlt).toNat
          · have ia : (97 : Int) ≤ ((s[j]'hlt).toNat : Int) := by omega
            by_cases hz : (s[j]'hlt).toNat ≤ 122
            · have iz : ((s[j]'hlt).toNat : Int) ≤ 122 := by omega
              have hw2 := word_snoc HWD.out hlt ha hz
              have HW2 := Lib.hid hw2
              clear hw2
              go_wp2
              go_roundw
              case rel => exact ⟨j + 1, _, by go_num, rfl, by omega, by simp; omega, HW2.out, by trivial⟩
              case measure => simp [intOf]; omega
            · have iz : ¬ ((s[j]'hlt).toNat : Int) ≤ 122 := by omega
              go_wp2
              go_roundw
              case rel => exact ⟨j + 1, _, by go_num, rfl, by omega, hA, HWD.out, by trivial⟩
              case measure => simp [intOf]; omega
          · have ia : ¬ (97 : Int) ≤ ((s[j]'hlt).toNat : Int) := by omega
            go_wp2
            go_roundw
            case rel => exact ⟨j + 1, _, by go_num, rfl, by omega, hA, HWD.out, by trivial⟩
            case measure => simp [intOf]; omega
        · have i40 : ¬ (A.size : Int) < 40 := by omega
          go_wp2
          go_meet
          exact ⟨A, rfl, hA, HWD.out, by trivial⟩
      · go_wp2
        go_meet
        exact ⟨A, rfl, hA, HWD.out, by trivial⟩
  case rest =>
    obtain ⟨A, rfl, hA, hwd, hw0⟩ := hcut
    obtain rfl : w = wc := hw0.symm
    have hwn : A.data.toList.length ≤ 60 := by simp; omega
    have pA : Pg aL aI aS w (A : ByteArray) (⟨#[60, 112, 62]⟩ ++ A ++ ⟨#[60, 47, 112, 62, 10]⟩ : ByteArray) := pg_any aL aI aS w HV.out HG.out _ _ _ _ rfl (by omega) (wd_cA hwd hwn) (by
      refine ByteArray.ext ?_
      simp [pTxt, pTxt])
    have pB : Pg aL aI aS w (⟨#[35, 35, 32]⟩ ++ A ++ ⟨#[32, 13, 10]⟩ : ByteArray) (⟨#[60, 104, 50, 62]⟩ ++ A ++ ⟨#[60, 47, 104, 50, 62, 10]⟩ : ByteArray) := pg_any aL aI aS w HV.out HG.out _ _ _ _ (by simp) (by simp only [List.length_append, List.length_cons, List.length_nil]; omega) (wd_cB hwd hwn) (by
      refine ByteArray.ext ?_
      simp [hTxt, pTxt])
    have pC : Pg aL aI aS w (⟨#[42]⟩ ++ A ++ ⟨#[42]⟩ : ByteArray) (⟨#[60, 112, 62, 60, 101, 109, 62]⟩ ++ A ++ ⟨#[60, 47, 101, 109, 62, 60, 47, 112, 62, 10]⟩ : ByteArray) := pg_any aL aI aS w HV.out HG.out _ _ _ _ (by simp) (by simp only [List.length_append, List.length_cons, List.length_nil]; omega) (wd_cC hwd hwn) (by
      refine ByteArray.ext ?_
      simp [emTxt, pTxt])
    have pD : Pg aL aI aS w (⟨#[62, 32]⟩ ++ A : ByteArray) (⟨#[60, 98, 108, 111, 99, 107, 113, 117, 111, 116, 101, 62, 10]⟩ ++ (⟨#[60, 112, 62]⟩ ++ A ++ ⟨#[60, 47, 112, 62, 10]⟩) ++ ⟨#[60, 47, 98, 108, 111, 99, 107, 113, 117, 111, 116, 101, 62, 10]⟩ : ByteArray) := pg_any aL aI aS w HV.out HG.out _ _ _ _ (by simp) (by simp only [List.length_append, List.length_cons, List.length_nil]; omega) (wd_cD hwd hwn) (by
      refine ByteArray.ext ?_
      simp [quTxt, pTxt])
    have pE : Pg aL aI aS w (⟨#[45, 32]⟩ ++ A ++ ⟨#[10, 45, 32, 91]⟩ ++ A ++ ⟨#[93, 40]⟩ ++ A ++ ⟨#[41]⟩ : ByteArray) (⟨#[60, 117, 108, 62, 10, 60, 108, 105, 62, 10]⟩ ++ (⟨#[60, 112, 62]⟩ ++ A ++ ⟨#[60, 47, 112, 62, 10]⟩) ++ ⟨#[60, 47, 108, 105, 62, 10, 60, 108, 105, 62, 10, 60, 112, 62, 60, 97, 32, 104, 114, 101, 102, 61, 34]⟩ ++ A ++ ⟨#[34, 62]⟩ ++ A ++ ⟨#[60, 47, 97, 62, 60, 47, 112, 62, 10, 60, 47, 108, 105, 62, 10, 60, 47, 117, 108, 62, 10]⟩ : ByteArray) := pg_any aL aI aS w HV.out HG.out _ _ _ _ (by simp) (by simp only [List.length_append, List.length_cons, List.length_nil]; omega) (wd_cE hwd hwn) (by
      refine ByteArray.ext ?_
      simp [liTxt, pTxt])
    obtain ⟨PA, hPA⟩ : ∃ P, (⟨#[60, 112, 62]⟩ ++ A ++ ⟨#[60, 47, 112, 62, 10]⟩ : ByteArray) = P := ⟨_, rfl⟩
    rw [hPA] at pA pD pE
    obtain ⟨PB, hPB⟩ : ∃ P, (⟨#[60, 104, 50, 62]⟩ ++ A ++ ⟨#[60, 47, 104, 50, 62, 10]⟩ : ByteArray) = P := ⟨_, rfl⟩
    rw [hPB] at pB
    obtain ⟨PC, hPC⟩ : ∃ P, (⟨#[60, 112, 62, 60, 101, 109, 62]⟩ ++ A ++ ⟨#[60, 47, 101, 109, 62, 60, 47, 112, 62, 10]⟩ : ByteArray) = P := ⟨_, rfl⟩
    rw [hPC] at pC
    obtain ⟨PD, hPD⟩ : ∃ P, (⟨#[60, 98, 108, 111, 99, 107, 113, 117, 111, 116, 101, 62, 10]⟩ ++ PA ++ ⟨#[60, 47, 98, 108, 111, 99, 107, 113, 117, 111, 116, 101, 62, 10]⟩ : ByteArray) = P := ⟨_, rfl⟩
    rw [hPD] at pD
    obtain ⟨PE, hPE⟩ : ∃ P, (⟨#[60, 117, 108, 62, 10, 60, 108, 105, 62, 10]⟩ ++ PA ++ ⟨#[60, 47, 108, 105, 62, 10, 60, 108, 105, 62, 10, 60, 112, 62, 60, 97, 32, 104, 114, 101, 102, 61, 34]⟩ ++ A ++ ⟨#[34, 62]⟩ ++ A ++ ⟨#[60, 47, 97, 62, 60, 47, 112, 62, 10, 60, 47, 108, 105, 62, 10, 60, 47, 117, 108, 62, 10]⟩ : ByteArray) = P := ⟨_, rfl⟩
    rw [hPE] at pE
    have HQ := Lib.hid (And.intro hPA (And.intro hPB (And.intro hPC (And.intro hPD hPE))))
    clear hPA hPB hPC hPD hPE
    have HPA := Lib.hid pA
    have HPB := Lib.hid pB
    have HPC := Lib.hid pC
    have HPD := Lib.hid pD
    have HPE := Lib.hid pE
    have HWH := Lib.hid (fun (T : ByteArray) (W : World) => whole_any T W)
    clear pA pB pC pD pE HV HG hwd hwn
    go_upto_region 8 with (first
      | (go_at_call 13; refine (HWH.out _ _).mono ?_; rintro e w2 ⟨rfl, hkw⟩)
      | (go_at_call 12; refine (HPA.out _ ((Keeps.refl _ _).tr hkw)).mono ?_; rintro e w3 ⟨n, o, m, rd, nn, rfl, hkh⟩))
    refine name_world fun X0 hX0 => ?_
    have hk0 : Fresh w X0 := by rw [hX0]; exact ((hkw.tr hkh).alloc _)
    have bA0 : X0.heap[w3.heap.size]? = some (.cells #[.int .i64 0, .int .i64 n, .int .i64 PA.size, .string PA, .int .i64 o, .int .i64 m, .bool nn, .int .i64 rd] 27 (0, 0)) := by rw [hX0]; exact heap_alloc_new w3 _
    obtain ⟨cA, hcA⟩ : ∃ c, c = w3.heap.size := ⟨_, rfl⟩
    rw [← hcA] at bA0
    have HF0 := Lib.hid ((Keeps.refl _ _).tr hk0)
    try rw [← hcA]
    clear hX0 hk0 hkw hkh hcA 
    go_upto_region 9 with (first
      | (go_at_call 13; refine (HWH.out _ _).mono ?_; rintro e w2 ⟨rfl, hkw⟩)
      | (go_at_call 12; refine (HPB.out _ (HF0.out.tr hkw)).mono ?_; rintro e w3 ⟨n, o, m, rd, nn, rfl, hkh⟩))
    refine name_world fun X1 hX1 => ?_
    have hk1 : Fresh X0 X1 := by rw [hX1]; exact ((hkw.tr hkh).alloc _)
    have bB1 : X1.heap[w3.heap.size]? = some (.cells #[.int .i64 0, .int .i64 n, .int .i64 PB.size, .string PB, .int .i64 o, .int .i64 m, .bool nn, .int .i64 rd] 27 (0, 0)) := by rw [hX1]; exact heap_alloc_new w3 _
    obtain ⟨cB, hcB⟩ : ∃ c, c = w3.heap.size := ⟨_, rfl⟩
    rw [← hcB] at bB1
    have HF1 := Lib.hid (HF0.out.tr hk1)
    have bA1 := hk1.heap_some bA0 (fun h => h)
    rw [← hcB]
    clear hX1 hk1 hkw hkh hcB bA0
    go_upto_region 10 with (first
      | (go_at_call 13; refine (HWH.out _ _).mono ?_; rintro e w2 ⟨rfl, hkw⟩)
      | (go_at_call 12; refine (HPC.out _ (HF1.out.tr hkw)).mono ?_; rintro e w3 ⟨n, o, m, rd, nn, rfl, hkh⟩))
    refine name_world fun X2 hX2 => ?_
    have hk2 : Fresh X1 X2 := by rw [hX2]; exact ((hkw.tr hkh).alloc _)
    have bC2 : X2.heap[w3.heap.size]? = some (.cells #[.int .i64 0, .int .i64 n, .int .i64 PC.size, .string PC, .int .i64 o, .int .i64 m, .bool nn, .int .i64 rd] 27 (0, 0)) := by rw [hX2]; exact heap_alloc_new w3 _
    obtain ⟨cC, hcC⟩ : ∃ c, c = w3.heap.size := ⟨_, rfl⟩
    rw [← hcC] at bC2
    have HF2 := Lib.hid (HF1.out.tr hk2)
    have bA2 := hk2.heap_some bA1 (fun h => h)
    have bB2 := hk2.heap_some bB1 (fun h => h)
    rw [← hcC]
    clear hX2 hk2 hkw hkh hcC bA1 bB1
    go_upto_region 11 with (first
      | (go_at_call 13; refine (HWH.out _ _).mono ?_; rintro e w2 ⟨rfl, hkw⟩)
      | (go_at_call 12; refine (HPD.out _ (HF2.out.tr hkw)).mono ?_; rintro e w3 ⟨n, o, m, rd, nn, rfl, hkh⟩))
    refine name_world fun X3 hX3 => ?_
    have hk3 : Fresh X2 X3 := by rw [hX3]; exact ((hkw.tr hkh).alloc _)
    have bD3 : X3.heap[w3.heap.size]? = some (.cells #[.int .i64 0, .int .i64 n, .int .i64 PD.size, .string PD, .int .i64 o, .int .i64 m, .bool nn, .int .i64 rd] 27 (0, 0)) := by rw [hX3]; exact heap_alloc_new w3 _
    obtain ⟨cD, hcD⟩ : ∃ c, c = w3.heap.size := ⟨_, rfl⟩
    rw [← hcD] at bD3
    have HF3 := Lib.hid (HF2.out.tr hk3)
    have bA3 := hk3.heap_some bA2 (fun h => h)
    have bB3 := hk3.heap_some bB2 (fun h => h)
    have bC3 := hk3.heap_some bC2 (fun h => h)
    rw [← hcD]
    clear hX3 hk3 hkw hkh hcD bA2 bB2 bC2
    go_upto_region 12 with (first
      | (go_at_call 13; refine (HWH.out _ _).mono ?_; rintro e w2 ⟨rfl, hkw⟩)
      | (go_at_call 12; refine (HPE.out _ (HF3.out.tr hkw)).mono ?_; rintro e w3 ⟨n, o, m, rd, nn, rfl, hkh⟩))
    refine name_world fun X4 hX4 => ?_
    have hk4 : Fresh X3 X4 := by rw [hX4]; exact ((hkw.tr hkh).alloc _)
    have bE4 : X4.heap[w3.heap.size]? = some (.cells #[.int .i64 0, .int .i64 n, .int .i64 PE.size, .string PE, .int .i64 o, .int .i64 m, .bool nn, .int .i64 rd] 27 (0, 0)) := by rw [hX4]; exact heap_alloc_new w3 _
    obtain ⟨cE, hcE⟩ : ∃ c, c = w3.heap.size := ⟨_, rfl⟩
    rw [← hcE] at bE4
    have HF4 := Lib.hid (HF3.out.tr hk4)
    have bA4 := hk4.heap_some bA3 (fun h => h)
    have bB4 := hk4.heap_some bB3 (fun h => h)
    have bC4 := hk4.heap_some bC3 (fun h => h)
    have bD4 := hk4.heap_some bD3 (fun h => h)
    rw [← hcE]
    clear hX4 hk4 hkw hkh hcE bA3 bB3 bC3 bD3
    have HF := HF4
    clear HPA HPB HPC HPD HPE HWH HF0 HF1 HF2 HF3 HF4
    have rA : X4.cell? ⟨cA, 3, none⟩ = some (.string PA) := by rw [Lib.cell_of_heap bA4]; rfl
    have rB : X4.cell? ⟨cB, 3, none⟩ = some (.string PB) := by rw [Lib.cell_of_heap bB4]; rfl
    have rC : X4.cell? ⟨cC, 3, none⟩ = some (.string PC) := by rw [Lib.cell_of_heap bC4]; rfl
    have rD : X4.cell? ⟨cD, 3, none⟩ = some (.string PD) := by rw [Lib.cell_of_heap bD4]; rfl
    have rE : X4.cell? ⟨cE, 3, none⟩ = some (.string PE) := by rw [Lib.cell_of_heap bE4]; rfl
    obtain ⟨hPA, hPB, hPC, hPD, hPE⟩ := HQ.out
    have hPAs : PA.size ≤ 48 := by
      rw [← hPA, ByteArray.size_append, ByteArray.size_append, show (⟨#[60, 112, 62]⟩ : ByteArray).size = 3 from rfl, show (⟨#[60, 47, 112, 62, 10]⟩ : ByteArray).size = 5 from rfl]
      omega
    clear HQ bA4 bB4 bC4 bD4 bE4
    go_wp2
    go_ret
    exact ⟨rfl, HF.out⟩
end Go.Proofs.YtbioecifiogffaaGreatDoor
