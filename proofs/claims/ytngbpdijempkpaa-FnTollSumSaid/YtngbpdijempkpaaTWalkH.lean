/- Contracts: TollLeast and TollBest of the reference. -/
import Derived.Test.YtngbpdijempkpaaTWalkG
import Derived.Test.YtngbpdijempkpaaTWalkL
set_option linter.unusedVariables false
namespace Go.Proofs.Ytngbpdijempkpaa
open Go.RowKit

set_option maxRecDepth 20000 in
set_option maxHeartbeats 1600000 in
theorem specTollLeast_any (A : Option Addr) (len cap : Nat) (xs : List T3) (free f t r : Int) (w : World) (h : SlE 3 enc3 w A len xs) (hn : len ≤ 1048576) (hr : LeastIs xs free f t r) :
    Calls Try.prog 31 #[.slice A len cap, .int .i64 free, .int .i64 f, .int .i64 t] w (Only (.int .i64 r) w) := by
  have H := Lib.hid h
  have HXL := Lib.hid h.len
  clear h
  rcases hr with ⟨hW, rfl⟩ | ⟨hW, rfl⟩
  · have HW := Lib.hid hW
    have HL := Lib.hid (fun (B : Option Addr) (pl c m e : Nat) (C : Option Addr) (W : World) (hpl : (idxIf (inW f t) xs).length = pl) h1 h2 h3 => l8Least_any A B len cap pl c xs free f t (idxIf (inW f t) xs) hn hW rfl HXL.out hpl pl 0 C m e [] W (by omega) h1 h2 h3 (List.nil_sublist _))
    have HD := Lib.hid (show least (gAt xs) free ((idxIf (inW f t) xs).drop 0) (tk (gAt xs) free []) = least (gAt xs) free (idxIf (inW f t) xs) (fun _ => -1) from rfl)
    have HP := Lib.hid (fun W hS => specGatesPassed_any A len cap xs f t _ W hS hn (.inl ⟨hW.1, rfl⟩))
    clear hW
    go_enter Try.func31, Try.ntmps31
    go_wp2_with fail
    refine (l8Ok_any A len cap xs free f t w H.out (by omega)).mono ?_
    intro e w1 hp
    obtain ⟨rfl, hb1⟩ := hp.yes HW.out
    have HB1 := Lib.hid hb1
    clear hb1 hp
    go_wp2_with fail
    refine (HP.out w1 (H.out.below HB1.out)).mono ?_
    rintro e w2 ⟨v, rfl, hown, hb2⟩
    obtain ⟨A2, c2, rfl, hs2⟩ := hown.sl encI_len
    have HS2 := Lib.hid hs2
    have HB2 := Lib.hid (below_trans HB1.out hb2)
    clear hown hb2 hs2
    go_wp2_with fail
    refine (HL.out A2 _ c2 _ _ _ _ rfl (H.out.below (below_alloc HB2.out _)) (HS2.out.alloc _) (slE_new w2 3 encI_len [] #[] rfl (by simp) rfl rfl)).mono ?_
    rintro e w3 ⟨rfl, hb3⟩
    rw [HD.out]
    have HB3 := Lib.hid (below_trans (below_alloc HB2.out _) hb3)
    clear hb3
    go_wp2_with fail
    go_ret
    exact ⟨rfl, HB3.out⟩
  · have HW := Lib.hid hW
    clear hW
    go_enter Try.func31, Try.ntmps31
    go_wp2_with fail
    refine (l8Ok_any A len cap xs free f t w H.out (by omega)).mono ?_
    intro e w1 hp
    obtain ⟨rfl, hb1⟩ := hp.no HW.out
    have HB1 := Lib.hid hb1
    clear hb1 hp
    go_wp2
    go_ret
    exact ⟨rfl, HB1.out⟩
end Go.Proofs.Ytngbpdijempkpaa
