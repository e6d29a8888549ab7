/- plain.Blocks, proselaw.Blocked: the walk. Condition: the library's own variable is there. -/
import Derived.Test.YtbioecifiogffaaDoorBlkTop
import Derived.Test.YtbioecifiogffaaDoorSameEv
import Derived.Test.YtbioecifiogffaaDoorBlkRef10
namespace Go.Proofs.YtbioecifiogffaaDoor
open Go.RowKit

set_option maxHeartbeats 1000000 in
set_option maxRecDepth 100000 in
theorem plBlocks_any (s : ByteArray) (w : World) (hs : s.size ≤ 1048576) (hG : Gl w) :
    Calls Tryd.prog 15 #[.string s] w fun e w' => ∃ v, e = .returned v ∧ Evs w' 62 v (EL (blkT (regular s))) ∧ Fresh w w' := by
  have hrl := regular_length s
  have hbl := blkT_len (regular s)
  have hel : (EL (blkT (regular s))).length ≤ 1000000000 := by simp [EL]; omega
  have hfd := pBlocks_any s w hs hG
  generalize EL (blkT (regular s)) = I at *
  have hev := fun v W h => events_any v I W h hel
  have HFD := Lib.hid hfd
  have HEV := Lib.hid hev
  clear hfd hev hG
  go_enter Tryd.func15, Tryd.ntmps15
  go_wp2_with fail
  refine HFD.out.mono ?_
  rintro r w2 ⟨v2, rfl, he2, ho2, hk2⟩
  have hee := HEV.out v2 w2 he2
  have HEE := Lib.hid hee
  have HO := Lib.hid ho2
  have HK2 := Lib.hid hk2
  clear hee he2 ho2 hk2
  go_wp2_with fail
  refine HEE.out.mono ?_
  rintro r w3 ⟨v3, rfl, he3, ho3, hk3⟩
  have HE := Lib.hid he3
  have HK := Lib.hid (HK2.out.trans hk3 (fun j h1 h2 => by have := HO.out j h2; omega) : Fresh w w3)
  clear he3 ho3 hk3
  go_wp2
  go_ret
  exact ⟨_, rfl, HE.out, HK.out⟩

set_option maxHeartbeats 2000000 in
set_option maxRecDepth 100000 in
theorem Blocked_any (s : ByteArray) (w : World) (hG : Gl w) (hm : s.size ≤ maxLen) :
    Calls Tryd.prog 6 #[.string s] w fun e w' => e = .returned (.bool true) ∧ Fresh w w' := by
  unfold maxLen at hm
  by_cases hs : s.size ≤ 1048576
  · have hrl := regular_length s
    have hbl := blkT_len (regular s)
    have htl := lns_tot' (regular s)
    have hel : (EL (blkT (regular s))).length ≤ 1000000000 := by simp [EL]; omega
    have hpl := plBlocks_any s w hs hG
    have hre := fun W : World => refRegular_any s W (by omega)
    have hrli := fun W : World => rLines_any ⟨(regular s).toArray⟩ W (by simp [ByteArray.size]; omega)
    have hrb := fun (W : World) (g : Nat) (v : Value) (hv : LnAt W g v (lns (regular s))) => rBlocks_ok (tot (lns (regular s)) + 1) g v (lns (regular s)) 0 W hv (by omega) (by omega) (by omega)
    simp only [show (⟨(regular s).toArray⟩ : ByteArray).data.toList = regular s from rfl] at hrli
    rw [show ((0 : Nat) : Int) = 0 from rfl] at hrb
    have hrb2 : ∀ (W : World) (g : Nat) (v : Value), LnAt W g v (lns (regular s)) → Calls Tryd.prog 17 #[v, .int .i64 0] W fun e w' => ∃ u, e = .returned u ∧ Evs w' 61 u (EL (blkT (regular s))) ∧ (∀ b, u.ownBlock = some b → W.heap.size ≤ b) ∧ Fresh W w' := hrb
    generalize EL (blkT (regular s)) = I at *
    have hsa := fun v u W h h2 => same_any v u I W h h2 hel
    have HPL := Lib.hid hpl
    have HRE := Lib.hid hre
    have HRL := Lib.hid hrli
    have HRB := Lib.hid hrb2
    have HSA := Lib.hid hsa
    clear hpl hre hrli hrb hrb2 hsa hG
    go_enter Tryd.func6, Tryd.ntmps6
    go_wp2_with fail
    refine HPL.out.mono ?_
    rintro r w2 ⟨v2, rfl, he2, hk2⟩
    have HE2 := Lib.hid he2
    have HK2 := Lib.hid hk2
    clear he2 hk2
    go_wp2_with fail
    refine (HRE.out _).mono ?_
    rintro r w3 ⟨rfl, hk3⟩
    have HK3 := Lib.hid hk3
    clear hk3
    go_wp2_with fail
    refine (HRL.out _).mono ?_
    rintro r w4 ⟨v4, rfl, hv4, -, hk4⟩
    have hrb4 := HRB.out w4 _ v4 hv4.at
    have HRB4 := Lib.hid hrb4
    have HK4 := Lib.hid hk4
    clear hv4 hk4 hrb4
    go_wp2_with fail
    refine HRB4.out.mono ?_
    rintro r w5 ⟨v5, rfl, he5, -, hk5⟩
    have hss := HSA.out v2 v5 w5 (((HE2.out.fresh HK3.out).fresh HK4.out).fresh hk5) he5
    have HSS := Lib.hid hss
    have HK5 := Lib.hid hk5
    clear hss he5 hk5
    go_wp2_with fail
    refine HSS.out.mono ?_
    rintro r w6 ⟨rfl, hk6⟩
    have HK := Lib.hid ((((HK2.out.tr HK3.out).tr HK4.out).tr HK5.out).tr hk6)
    clear hk6
    go_wp2
    go_ret
    exact ⟨rfl, HK.out⟩
  · have hlt : (1048576 : Int) < (s.size : Int) := by omega
    clear hG hs
    go_enter Tryd.func6, Tryd.ntmps6
    go_wp2
    go_ret
    exact ⟨rfl, Keeps.refl _ _⟩
end Go.Proofs.YtbioecifiogffaaDoor
