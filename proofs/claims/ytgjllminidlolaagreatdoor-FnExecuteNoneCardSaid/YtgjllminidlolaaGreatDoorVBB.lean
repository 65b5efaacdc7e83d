/- Texts of mine in one: ZDrawC. -/
import Derived.Test.YtgjllminidlolaaGreatDoorVBA
/- Contracts: the draw of a line and of a script. -/
set_option linter.unusedVariables false
namespace Go.Proofs.YtgjllminidlolaaGreatDoor
open Go.RowKit

/-- A draw under way. -/
def DS (w : World) (R m : Nat) (W : World) : Prop := RdAt W R m ∧ w.grownBy W (some R)
section
variable {w W W' : World} {R m m' : Nat}
theorem DS.pick (h : DS w R m W) (hr : RdAt W' R m') (hg : W.grownBy W' (some R)) : DS w R m' W' := ⟨hr, grown_trans h.2 hg⟩
theorem DS.below (h : DS w R m W) (hb : Below W.heap.size W W') : DS w R m W' := ⟨h.1.below hb (Nat.le_refl _), grown_below h.2 hb⟩
theorem DS.mono (h : DS w R m W) (hm : m ≤ m') : DS w R m' W := ⟨h.1.mono hm, h.2⟩
theorem DS.ret (h : DS w R m W) {t : ByteArray} {k l : Nat} (ht : t.size ≤ k) (hk : k ≤ l) (hm : m ≤ m') : DrewStr l w R m' (.returned (.string t)) W := ⟨t, rfl, Nat.le_trans ht hk, h.1.mono hm, h.2⟩
end
set_option maxRecDepth 20000 in
set_option maxHeartbeats 12800000 in
theorem l92Words_any (R m : Nat) (w : World) (h : RdAt w R m) (hm : m ≤ 30000) :
    Calls Tryz.prog 33 #[.pointer (some ⟨R, 0, none⟩)] w (DrewStr 400 w R (m + 60)) := by
  have hRw := h.lt
  have D0 := Lib.hid (show DS w R m w from ⟨h, World.grownBy.refl _ _⟩)
  clear h
  go_enter Tryz.func33, Tryz.ntmps33
  go_wp2_with fail
  refine (pick_any R m 6 _ D0.out.1 (by omega) (by omega)).mono ?_
  rintro e w1 ⟨x1, rfl, p1, q1, -, hr, hg⟩
  have q1 := q1 (by omega)
  have D1 := Lib.hid (D0.out.pick hr hg)
  clear hr hg
  go_wp2_with fail
  refine (l6Dec_all x1 _).mono ?_
  rintro e w2 ⟨s2, rfl, h2, hb⟩
  have D2 := Lib.hid (D1.out.below hb)
  clear hb
  obtain ⟨t1, g1, had1⟩ := add_some ⟨#[32]⟩ s2 (a := 1) (b := 21) (by decide) h2 (by omega)
  obtain ⟨t2, g2, had2⟩ := add_some t1 ⟨#[32]⟩ (a := 22) (b := 1) g1 (by decide) (by omega)
  go_wp2_with fail
  refine (pick_any R (m + 1) 7 _ D2.out.1 (by omega) (by omega)).mono ?_
  rintro e w3 ⟨x3, rfl, p3, q3, -, hr, hg⟩
  have q3 := q3 (by omega)
  have D3 := Lib.hid (D2.out.pick hr hg)
  clear hr hg
  go_wp2_with fail
  refine (l6Dec_all x3 _).mono ?_
  rintro e w4 ⟨s4, rfl, h4, hb⟩
  have D4 := Lib.hid (D3.out.below hb)
  clear hb
  obtain ⟨t3, g3, had3⟩ := add_some t2 s4 (a := 23) (b := 21) g2 h4 (by omega)
  go_wp2_with fail
  refine (pick_any R (m + 1 + 1) 12 _ D4.out.1 (by omega) (by omega)).mono ?_
  rintro e w5 ⟨x5, rfl, p5, q5, -, hr, hg⟩
  have q5 := q5 (by omega)
  have D5 := Lib.hid (D4.out.pick hr hg)
  clear hr hg
  have HT := Lib.hid g3
  obtain ⟨WP, rfl⟩ : ∃ W, W = w5 := ⟨_, rfl⟩
  clear p1 q1 p3 q3
  rcases (by omega : x5 = 0 ∨ x5 = 1 ∨ x5 = 2 ∨ x5 = 3 ∨ x5 = 4 ∨ x5 = 5 ∨ x5 = 6 ∨ x5 = 7 ∨ x5 = 8 ∨ x5 = 9 ∨ x5 = 10 ∨ x5 = 11) with rfl | rfl | rfl | rfl | rfl | rfl | rfl | rfl | rfl | rfl | rfl | rfl
  all_goals clear p5 q5
  · skip
    obtain ⟨t4, g4, had4⟩ := add_some ⟨#[114, 111, 97, 100]⟩ t3 (a := 4) (b := 44) (by decide) HT.out (by omega)
    obtain ⟨t5, g5, had5⟩ := add_some t4 ⟨#[32]⟩ (a := 48) (b := 1) g4 (by decide) (by omega)
    go_wp2_with fail
    refine (pick_any R (m + 1 + 1 + 1) 20 _ D5.out.1 (by omega) (by omega)).mono ?_
    rintro e w16 ⟨x16, rfl, p16, q16, -, hr, hg⟩
    have q16 := q16 (by omega)
    have D16 := Lib.hid (D5.out.pick hr hg)
    clear hr hg
    go_wp2_with fail
    refine (l6Dec_all x16 _).mono ?_
    rintro e w17 ⟨s17, rfl, h17, hb⟩
    have D17 := Lib.hid (D16.out.below hb)
    clear hb
    obtain ⟨t6, g6, had6⟩ := add_some t5 s17 (a := 49) (b := 21) g5 h17 (by omega)
    go_wp2_with fail
    go_ret
    exact D17.out.ret g6 (by omega) (by omega)
  · skip
    obtain ⟨t4, g4, had4⟩ := add_some ⟨#[114, 111, 97, 100]⟩ t3 (a := 4) (b := 44) (by decide) HT.out (by omega)
    obtain ⟨t5, g5, had5⟩ := add_some t4 ⟨#[32]⟩ (a := 48) (b := 1) g4 (by decide) (by omega)
    go_wp2_with fail
    refine (pick_any R (m + 1 + 1 + 1) 20 _ D5.out.1 (by omega) (by omega)).mono ?_
    rintro e w16 ⟨x16, rfl, p16, q16, -, hr, hg⟩
    have q16 := q16 (by omega)
    have D16 := Lib.hid (D5.out.pick hr hg)
    clear hr hg
    go_wp2_with fail
    refine (l6Dec_all x16 _).mono ?_
    rintro e w17 ⟨s17, rfl, h17, hb⟩
    have D17 := Lib.hid (D16.out.below hb)
    clear hb
    obtain ⟨t6, g6, had6⟩ := add_some t5 s17 (a := 49) (b := 21) g5 h17 (by omega)
    go_wp2_with fail
    go_ret
    exact D17.out.ret g6 (by omega) (by omega)
  · skip
    obtain ⟨t4, g4, had4⟩ := add_some ⟨#[99, 108, 111, 115, 101]⟩ t3 (a := 5) (b := 44) (by decide) HT.out (by omega)
    go_wp2_with fail
    go_ret
    exact D5.out.ret g4 (by omega) (by omega)
  · skip
    have SL := Lib.hid (slE_new (enc := encS) (k := 1) WP 9 encS_len ([⟨#[102, 97, 114]⟩, ⟨#[119, 97, 121]⟩] : List ByteArray) #[.string ⟨#[102, 97, 114]⟩, .string ⟨#[119, 97, 121]⟩] rfl (by unfold maxLen; simp) (n := 2) rfl (g := WP.heap.size) rfl)
    have DA := Lib.hid (D5.out.below (below_alloc (Below.refl _ WP) (.cells #[.string ⟨#[102, 97, 114]⟩, .string ⟨#[119, 97, 121]⟩] 9)))
    have HOF := Lib.hid (of_any R (m + 1 + 1 + 1) WP.heap.size 2 2 [⟨#[102, 97, 114]⟩, ⟨#[119, 97, 121]⟩] _ DA.out.1 (by omega) SL.out (Nat.ne_of_gt D5.out.1.lt) (by omega) (by omega) (by decide))
    go_wp2_with fail
    refine HOF.out.mono ?_
    rintro e wo ⟨so, rfl, hs, hr, hg⟩
    have DO := Lib.hid (DA.out.pick hr hg)
    have HS := Lib.hid hs
    clear hr hg hs
    obtain ⟨t4, g4, had4⟩ := add_some so t3 (a := 20) (b := 44) HS.out HT.out (by omega)
    go_wp2_with fail
    go_ret
    exact DO.out.ret g4 (by omega) (by omega)
  · skip
    go_wp2_with fail
    refine (l92Coach_any R (m + 1 + 1 + 1) _ D5.out.1 (by omega)).mono ?_
    rintro e wc ⟨sc, rfl, hs, hr, hg⟩
    have DC := Lib.hid (D5.out.pick hr hg)
    have HS := Lib.hid hs
    clear hr hg hs
    go_wp2_with fail
    go_ret
    exact DC.out.ret HS.out (by omega) (by omega)
  · skip
    go_wp2_with fail
    refine (l92Coach_any R (m + 1 + 1 + 1) _ D5.out.1 (by omega)).mono ?_
    rintro e wc ⟨sc, rfl, hs, hr, hg⟩
    have DC := Lib.hid (D5.out.pick hr hg)
    have HS := Lib.hid hs
    clear hr hg hs
    go_wp2_with fail
    go_ret
    exact DC.out.ret HS.out (by omega) (by omega)
  · skip
    have SL := Lib.hid (slE_new (enc := encS) (k := 1) WP 9 encS_len ([⟨#[112, 111, 115, 116]⟩, ⟨#[114, 105, 100, 101]⟩] : List ByteArray) #[.string ⟨#[112, 111, 115, 116]⟩, .string ⟨#[114, 105, 100, 101]⟩] rfl (by unfold maxLen; simp) (n := 2) rfl (g := WP.heap.size) rfl)
    have DA := Lib.hid (D5.out.below (below_alloc (Below.refl _ WP) (.cells #[.string ⟨#[112, 111, 115, 116]⟩, .string ⟨#[114, 105, 100, 101]⟩] 9)))
    have HOF := Lib.hid (of_any R (m + 1 + 1 + 1) WP.heap.size 2 2 [⟨#[112, 111, 115, 116]⟩, ⟨#[114, 105, 100, 101]⟩] _ DA.out.1 (by omega) SL.out (Nat.ne_of_gt D5.out.1.lt) (by omega) (by omega) (by decide))
    go_wp2_with fail
    refine HOF.out.mono ?_
    rintro e wo ⟨so, rfl, hs, hr, hg⟩
    have DO := Lib.hid (DA.out.pick hr hg)
    have HS := Lib.hid hs
    clear hr hg hs
    obtain ⟨t4, g4, had4⟩ := add_some so t3 (a := 20) (b := 44) HS.out HT.out (by omega)
    obtain ⟨t5, g5, had5⟩ := add_some t4 ⟨#[32]⟩ (a := 64) (b := 1) g4 (by decide) (by omega)
    go_wp2_with fail
    refine (pick_any R (m + 1 + 1 + 1 + 1) 60 _ DO.out.1 (by omega) (by omega)).mono ?_
    rintro e w16 ⟨x16, rfl, p16, q16, -, hr, hg⟩
    have q16 := q16 (by omega)
    have D16 := Lib.hid (DO.out.pick hr hg)
    clear hr hg
    go_wp2_with fail
    refine (l6Dec_all x16 _).mono ?_
    rintro e w17 ⟨s17, rfl, h17, hb⟩
    have D17 := Lib.hid (D16.out.below hb)
    clear hb
    obtain ⟨t6, g6, had6⟩ := add_some t5 s17 (a := 65) (b := 21) g5 h17 (by omega)
    obtain ⟨t7, g7, had7⟩ := add_some t6 ⟨#[32]⟩ (a := 86) (b := 1) g6 (by decide) (by omega)
    go_wp2_with fail
    refine (pick_any R (m + 1 + 1 + 1 + 1 + 1) 5 _ D17.out.1 (by omega) (by omega)).mono ?_
    rintro e w18 ⟨x18, rfl, p18, q18, -, hr, hg⟩
    have q18 := q18 (by omega)
    have D18 := Lib.hid (D17.out.pick hr hg)
    clear hr hg
    go_wp2_with fail
    refine (l6Dec_all x18 _).mono ?_
    rintro e w19 ⟨s19, rfl, h19, hb⟩
    have D19 := Lib.hid (D18.out.below hb)
    clear hb
    obtain ⟨t8, g8, had8⟩ := add_some t7 s19 (a := 87) (b := 21) g7 h19 (by omega)
    go_wp2_with fail
    go_ret
    exact D19.out.ret g8 (by omega) (by omega)
  · skip
    have SL := Lib.hid (slE_new (enc := encS) (k := 1) WP 9 encS_len ([⟨#[112, 111, 115, 116]⟩, ⟨#[114, 105, 100, 101]⟩] : List ByteArray) #[.string ⟨#[112, 111, 115, 116]⟩, .string ⟨#[114, 105, 100, 101]⟩] rfl (by unfold maxLen; simp) (n := 2) rfl (g := WP.heap.size) rfl)
    have DA := Lib.hid (D5.out.below (below_alloc (Below.refl _ WP) (.cells #[.string ⟨#[112, 111, 115, 116]⟩, .string ⟨#[114, 105, 100, 101]⟩] 9)))
    have HOF := Lib.hid (of_any R (m + 1 + 1 + 1) WP.heap.size 2 2 [⟨#[112, 111, 115, 116]⟩, ⟨#[114, 105, 100, 101]⟩] _ DA.out.1 (by omega) SL.out (Nat.ne_of_gt D5.out.1.lt) (by omega) (by omega) (by decide))
    go_wp2_with fail
    refine HOF.out.mono ?_
    rintro e wo ⟨so, rfl, hs, hr, hg⟩
    have DO := Lib.hid (DA.out.pick hr hg)
    have HS := Lib.hid hs
    clear hr hg hs
    obtain ⟨t4, g4, had4⟩ := add_some so t3 (a := 20) (b := 44) HS.out HT.out (by omega)
    obtain ⟨t5, g5, had5⟩ := add_some t4 ⟨#[32]⟩ (a := 64) (b := 1) g4 (by decide) (by omega)
    go_wp2_with fail
    refine (pick_any R (m + 1 + 1 + 1 + 1) 60 _ DO.out.1 (by omega) (by omega)).mono ?_
    rintro e w16 ⟨x16, rfl, p16, q16, -, hr, hg⟩
    have q16 := q16 (by omega)
    have D16 := Lib.hid (DO.out.pick hr hg)
    clear hr hg
    go_wp2_with fail
    refine (l6Dec_all x16 _).mono ?_
    rintro e w17 ⟨s17, rfl, h17, hb⟩
    have D17 := Lib.hid (D16.out.below hb)
    clear hb
    obtain ⟨t6, g6, had6⟩ := add_some t5 s17 (a := 65) (b := 21) g5 h17 (by omega)
    obtain ⟨t7, g7, had7⟩ := add_some t6 ⟨#[32]⟩ (a := 86) (b := 1) g6 (by decide) (by omega)
    go_wp2_with fail
    refine (pick_any R (m + 1 + 1 + 1 + 1 + 1) 5 _ D17.out.1 (by omega) (by omega)).mono ?_
    rintro e w18 ⟨x18, rfl, p18, q18, -, hr, hg⟩
    have q18 := q18 (by omega)
    have D18 := Lib.hid (D17.out.pick hr hg)
    clear hr hg
    go_wp2_with fail
    refine (l6Dec_all x18 _).mono ?_
    rintro e w19 ⟨s19, rfl, h19, hb⟩
    have D19 := Lib.hid (D18.out.below hb)
    clear hb
    obtain ⟨t8, g8, had8⟩ := add_some t7 s19 (a := 87) (b := 21) g7 h19 (by omega)
    go_wp2_with fail
    go_ret
    exact D19.out.ret g8 (by omega) (by omega)
  · skip
    have SL := Lib.hid (slE_new (enc := encS) (k := 1) WP 9 encS_len ([⟨#[105, 110, 115, 105, 100, 101]⟩, ⟨#[111, 117, 116, 115, 105, 100, 101]⟩] : List ByteArray) #[.string ⟨#[105, 110, 115, 105, 100, 101]⟩, .string ⟨#[111, 117, 116, 115, 105, 100, 101]⟩] rfl (by unfold maxLen; simp) (n := 2) rfl (g := WP.heap.size) rfl)
    have DA := Lib.hid (D5.out.below (below_alloc (Below.refl _ WP) (.cells #[.string ⟨#[105, 110, 115, 105, 100, 101]⟩, .string ⟨#[111, 117, 116, 115, 105, 100, 101]⟩] 9)))
    have HOF := Lib.hid (of_any R (m + 1 + 1 + 1) WP.heap.size 2 2 [⟨#[105, 110, 115, 105, 100, 101]⟩, ⟨#[111, 117, 116, 115, 105, 100, 101]⟩] _ DA.out.1 (by omega) SL.out (Nat.ne_of_gt D5.out.1.lt) (by omega) (by omega) (by decide))
    go_wp2_with fail
    refine HOF.out.mono ?_
    rintro e wo ⟨so, rfl, hs, hr, hg⟩
    have DO := Lib.hid (DA.out.pick hr hg)
    have HS := Lib.hid hs
    clear hr hg hs
    obtain ⟨t4, g4, had4⟩ := add_some so t3 (a := 20) (b := 44) HS.out HT.out (by omega)
    go_wp2_with fail
    go_ret
    exact DO.out.ret g4 (by omega) (by omega)
  · skip
    have SL := Lib.hid (slE_new (enc := encS) (k := 1) WP 9 encS_len ([⟨#[105, 110, 115, 105, 100, 101]⟩, ⟨#[111, 117, 116, 115, 105, 100, 101]⟩] : List ByteArray) #[.string ⟨#[105, 110, 115, 105, 100, 101]⟩, .string ⟨#[111, 117, 116, 115, 105, 100, 101]⟩] rfl (by unfold maxLen; simp) (n := 2) rfl (g := WP.heap.size) rfl)
    have DA := Lib.hid (D5.out.below (below_alloc (Below.refl _ WP) (.cells #[.string ⟨#[105, 110, 115, 105, 100, 101]⟩, .string ⟨#[111, 117, 116, 115, 105, 100, 101]⟩] 9)))
    have HOF := Lib.hid (of_any R (m + 1 + 1 + 1) WP.heap.size 2 2 [⟨#[105, 110, 115, 105, 100, 101]⟩, ⟨#[111, 117, 116, 115, 105, 100, 101]⟩] _ DA.out.1 (by omega) SL.out (Nat.ne_of_gt D5.out.1.lt) (by omega) (by omega) (by decide))
    go_wp2_with fail
    refine HOF.out.mono ?_
    rintro e wo ⟨so, rfl, hs, hr, hg⟩
    have DO := Lib.hid (DA.out.pick hr hg)
    have HS := Lib.hid hs
    clear hr hg hs
    obtain ⟨t4, g4, had4⟩ := add_some so t3 (a := 20) (b := 44) HS.out HT.out (by omega)
    go_wp2_with fail
    go_ret
    exact DO.out.ret g4 (by omega) (by omega)
  · skip
    have SL := Lib.hid (slE_new (enc := encS) (k := 1) WP 9 encS_len ([⟨#[]⟩, ⟨#[122, 122, 122]⟩, ⟨#[114, 111, 97, 100, 32, 48, 32, 49]⟩, ⟨#[99, 111, 97, 99, 104, 32, 49, 32, 50]⟩, ⟨#[102, 97, 114, 32, 48]⟩, ⟨#[115, 101, 97, 116, 115, 32, 49]⟩, ⟨#[112, 111, 115, 116, 32, 48, 32, 49, 32, 120, 32, 48]⟩] : List ByteArray) #[.string ⟨#[]⟩, .string ⟨#[122, 122, 122]⟩, .string ⟨#[114, 111, 97, 100, 32, 48, 32, 49]⟩, .string ⟨#[99, 111, 97, 99, 104, 32, 49, 32, 50]⟩, .string ⟨#[102, 97, 114, 32, 48]⟩, .string ⟨#[115, 101, 97, 116, 115, 32, 49]⟩, .string ⟨#[112, 111, 115, 116, 32, 48, 32, 49, 32, 120, 32, 48]⟩] rfl (by unfold maxLen; simp) (n := 7) rfl (g := WP.heap.size) rfl)
    have DA := Lib.hid (D5.out.below (below_alloc (Below.refl _ WP) (.cells #[.string ⟨#[]⟩, .string ⟨#[122, 122, 122]⟩, .string ⟨#[114, 111, 97, 100, 32, 48, 32, 49]⟩, .string ⟨#[99, 111, 97, 99, 104, 32, 49, 32, 50]⟩, .string ⟨#[102, 97, 114, 32, 48]⟩, .string ⟨#[115, 101, 97, 116, 115, 32, 49]⟩, .string ⟨#[112, 111, 115, 116, 32, 48, 32, 49, 32, 120, 32, 48]⟩] 9)))
    have HOF := Lib.hid (of_any R (m + 1 + 1 + 1) WP.heap.size 7 7 [⟨#[]⟩, ⟨#[122, 122, 122]⟩, ⟨#[114, 111, 97, 100, 32, 48, 32, 49]⟩, ⟨#[99, 111, 97, 99, 104, 32, 49, 32, 50]⟩, ⟨#[102, 97, 114, 32, 48]⟩, ⟨#[115, 101, 97, 116, 115, 32, 49]⟩, ⟨#[112, 111, 115, 116, 32, 48, 32, 49, 32, 120, 32, 48]⟩] _ DA.out.1 (by omega) SL.out (Nat.ne_of_gt D5.out.1.lt) (by omega) (by omega) (by decide))
    go_wp2_with fail
    refine HOF.out.mono ?_
    rintro e wo ⟨so, rfl, hs, hr, hg⟩
    have DO := Lib.hid (DA.out.pick hr hg)
    have HS := Lib.hid hs
    clear hr hg hs
    go_wp2_with fail
    go_ret
    exact DO.out.ret HS.out (by omega) (by omega)
  · skip
    have SL := Lib.hid (slE_new (enc := encS) (k := 1) WP 9 encS_len ([⟨#[99, 111, 97, 99, 104, 101, 115]⟩, ⟨#[115, 101, 97, 116, 115]⟩] : List ByteArray) #[.string ⟨#[99, 111, 97, 99, 104, 101, 115]⟩, .string ⟨#[115, 101, 97, 116, 115]⟩] rfl (by unfold maxLen; simp) (n := 2) rfl (g := WP.heap.size) rfl)
    have DA := Lib.hid (D5.out.below (below_alloc (Below.refl _ WP) (.cells #[.string ⟨#[99, 111, 97, 99, 104, 101, 115]⟩, .string ⟨#[115, 101, 97, 116, 115]⟩] 9)))
    have HOF := Lib.hid (of_any R (m + 1 + 1 + 1) WP.heap.size 2 2 [⟨#[99, 111, 97, 99, 104, 101, 115]⟩, ⟨#[115, 101, 97, 116, 115]⟩] _ DA.out.1 (by omega) SL.out (Nat.ne_of_gt D5.out.1.lt) (by omega) (by omega) (by decide))
    go_wp2_with fail
    refine HOF.out.mono ?_
    rintro e wo ⟨so, rfl, hs, hr, hg⟩
    have DO := Lib.hid (DA.out.pick hr hg)
    have HS := Lib.hid hs
    clear hr hg hs
    go_wp2_with fail
    go_ret
    exact DO.out.ret HS.out (by omega) (by omega)
set_option maxRecDepth 20000 in
set_option maxHeartbeats 6400000 in
theorem drawExecute_any (A : Option Addr) (n c : Nat) (bsl : List Int) (w : World) (h : SlE 1 encU w A n bsl) (hb : Bytes bsl) (hn : n ≤ 1048576) (hc : n ≤ c) :
    Calls Tryz.prog 10 #[.slice A n c] w (SomeStr 7000 w) := by
  have HO := Lib.hid (l6Open_any A n c bsl w h hb hn hc)
  clear h hb
  go_enter Tryz.func10, Tryz.ntmps10
  go_wp2_with fail
  refine HO.out.mono ?_
  rintro e w0 ⟨rfl, hrd, hb0, hlt⟩
  obtain ⟨R, hR⟩ : ∃ R, w.heap.size = R := ⟨_, rfl⟩
  rw [hR] at hrd hlt ⊢
  have HR := Lib.hid hR
  have HB0 := Lib.hid hb0
  have D0 := Lib.hid (show DS w0 R 0 w0 from ⟨hrd, World.grownBy.refl _ _⟩)
  clear hR hrd hb0 hlt HO
  go_wp2_with fail
  refine (pick_any R 0 14 _ D0.out.1 (by omega) (by omega)).mono ?_
  rintro e w1 ⟨x1, rfl, p1, q1, -, hr, hg⟩
  have q1 := q1 (by omega)
  obtain ⟨k, rfl⟩ : ∃ k : Nat, x1 = k := ⟨x1.toNat, by omega⟩
  have D1 := Lib.hid (D0.out.pick hr hg)
  clear hr hg p1
  go_wp2_with fail
  go_loopw [4, 6] (fun s i wr => ∃ (j : Nat) (t : ByteArray), j ≤ k ∧ i = .int .i64 j ∧ s = .string t ∧ t.size ≤ 401 * j ∧ DS w0 R (1 + 60 * j) wr) (fun _ i _ => k - (intOf i).toNat)
  case atStart => exact ⟨0, _, by omega, rfl, rfl, by decide, D1.out⟩
  case round =>
    obtain ⟨j, t, hj, rfl, rfl, ht, hd⟩ := hrel
    have D2 := Lib.hid hd
    have HT := Lib.hid ht
    clear hd ht D1
    by_cases hjk : j < k
    · have i1 : (j : Int) < (k : Int) := by omega
      go_wp2_with fail
      refine (l92Words_any R _ _ D2.out.1 (by omega)).mono ?_
      rintro e w2 ⟨s, rfl, hs, hr, hg⟩
      have D3 := Lib.hid (D2.out.pick hr hg)
      obtain ⟨t1, g1, had1⟩ := add_some t s HT.out hs (by omega)
      obtain ⟨t2, g2, had2⟩ := add_some t1 ⟨#[10]⟩ (b := 1) g1 (by decide) (by omega)
      have H2 := Lib.hid g2
      clear hs hr hg g1 g2
      go_wp2_with fail
      go_roundw
      case rel => exact ⟨j + 1, t2, by omega, by go_num, rfl, by have := H2.out; omega, D3.out.mono (by omega)⟩
      case measure => simp [intOf]; omega
    · have i1 : ¬ (j : Int) < (k : Int) := by omega
      have HZ := Lib.hid (show t.size ≤ 5300 by have := HT.out; omega)
      have key : ∀ (W : World) (m : Nat), DS w0 R m W → Below w.heap.size w W := fun W m h => HB0.out.grown h.2 HB0.out.size (fun j hj => by injection hj with hj; rw [← hj]; exact Nat.le_of_eq HR.out)
      have KEY := Lib.hid key
      clear key
      go_wp2_with fail
      refine (pick_any R _ 24 _ D2.out.1 (by omega) (by omega)).mono ?_
      rintro e w2 ⟨x, rfl, p2, q2, -, hr, hg⟩
      have D3 := Lib.hid (D2.out.pick hr hg)
      clear hr hg q2
      obtain ⟨t1, g1, had1⟩ := add_some t ⟨#[115, 101, 97, 116, 115]⟩ (b := 5) HZ.out (by decide) (by omega)
      have H1 := Lib.hid g1
      clear g1
      by_cases hx0 : x = 0
      · subst hx0
        go_wp2_with fail
        go_ret
        exact ⟨t1, rfl, by have := H1.out; omega, KEY.out _ _ D3.out⟩
      by_cases hx1 : x = 1
      · subst hx1
        go_wp2_with fail
        refine (l6Many_any _).mono ?_
        rintro e w3 ⟨s, rfl, hs, hb⟩
        obtain ⟨t2, g2, had2⟩ := add_some t s HZ.out hs (by omega)
        have H2 := Lib.hid g2
        have D4 := Lib.hid (D3.out.below hb)
        clear hs hb g2
        go_wp2_with fail
        go_ret
        exact ⟨t2, rfl, by have := H2.out; omega, KEY.out _ _ D4.out⟩
      · have e0 : (x == 0) = false := by simpa using hx0
        have e1 : (x == 1) = false := by simpa using hx1
        go_wp2_with fail
        go_ret
        exact ⟨t, rfl, by have := HZ.out; omega, KEY.out _ _ D3.out⟩
end Go.Proofs.YtgjllminidlolaaGreatDoor
