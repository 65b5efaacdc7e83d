/- Contracts: BillTurn and BillLoads. -/
import Derived.Test.YtdfgogcefnamcaaWalkD
import Derived.Test.YtdfgogcefnamcaaCat
import Derived.Test.YtdfgogcefnamcaaConP
import Derived.Deep.RegionHeld3
set_option linter.unusedVariables false
namespace Go.Proofs.Ytdfgogcefnamcaa
open Go.RowKit

theorem info_int : (Try.prog.info? 3).map (fun i => (i.zero, i.size, i.bytes)) = some (some (.int .i64 0), 1, 8) := by kernel_rfl

set_option maxRecDepth 20000 in
set_option maxHeartbeats 1600000 in
theorem specBillTurn_yes (A : Option Addr) (n : Int) (len cap : Nat) (xs : List T3) (w : World) (h : SlE 3 enc3 w A len xs) (hn : len ≤ 16777216) (hB : BillOk n xs) :
    Calls Try.prog 29 #[.int .i64 n, .slice A len cap] w (RetOwnB 3 enc3 28 (turned n xs) true w) := by
  have H := Lib.hid h
  clear h
  have hr1 := hB.1
  have hr2 := hB.2.1
  have HB := Lib.hid hB
  clear hB
  go_enter Try.func29, Try.ntmps29
  go_wp2
  go_loopw [6, 7] (fun s i wr => ∃ k : Nat, k ≤ len ∧ i = .int .i64 k ∧ OwnE 3 enc3 28 w.heap.size wr s (turned n (xs.take k)) ∧ Below w.heap.size w wr) (fun _ i _ => len - (intOf i).toNat)
  case atStart => exact ⟨0, by omega, rfl, own_new w _ _ (Nat.le_refl _) enc3_len [] #[] rfl (by simp) rfl, below_alloc (Below.refl _ _) _⟩
  case round =>
    obtain ⟨k, hk, rfl, hown, hbr⟩ := hrel
    have HO := Lib.hid hown
    have HR := Lib.hid hbr
    clear hown hbr
    by_cases hlt : k < len
    · go_wp2_with fail
      refine (specBillValid_any A n len cap xs _ (H.out.below HR.out) hn).mono ?_
      intro e w2 hp
      obtain ⟨rfl, hb2⟩ := hp.yes HB.out
      have HB2 := Lib.hid (below_trans HR.out hb2)
      have HO2 := Lib.hid (HO.out.below hb2 (Nat.le_refl _))
      clear hb2 hp
      obtain ⟨b, off, x, y, z, rfl, hx, hc⟩ := at3k H.out HB2.out hlt
      have hok := HB.out.2.2.2.1 _ (mem_at hx)
      unfold OkP at hok
      simp only at hok
      have HX := Lib.hid (turned_next (n := n) hx)
      have HC := Lib.hid hc
      have hlen : (turned n (xs.take k)).length ≤ k := by rw [turned_len]; exact List.length_take_le _ _
      have hsz := HB2.out.size
      have hx0 : (0 : Int) ≤ (k : Int) := by omega
      have hx1 : (k : Int) < (len : Int) := by omega
      have n1 : ((turned n (xs.take k)).length + 1) * 24 ≤ 140737488355328 := by omega
      have n2 : (turned n (xs.take k)).length + 1 ≤ maxLen := by unfold maxLen; omega
      have N := Lib.hid (And.intro n1 n2)
      have e1 : IntKind.i64.wrap (n - y) = n - y := IntWalk.i64_in _ (by omega)
      have e2 : IntKind.i64.wrap (n - x) = n - x := IntWalk.i64_in _ (by omega)
      clear hx hc n1 n2
      have S1 := Lib.hid ((slE_new (k := 3) (enc := enc3) w2 28 enc3_len [⟨n - y, n - x, z⟩] #[.int .i64 (n - y), .int .i64 (n - x), .int .i64 z] rfl (by simp [maxLen]) (n := 1) rfl (g := w2.heap.size) rfl).drew)
      have HB2d := Lib.hid (below_drew HB2.out)
      have HB2a := Lib.hid (below_drew (below_alloc HB2.out (.cells #[.int .i64 (n - y), .int .i64 (n - x), .int .i64 z] 28)))
      have O2a := Lib.hid ((HO2.out.alloc (.cells #[.int .i64 (n - y), .int .i64 (n - x), .int .i64 z] 28)).drew)
      go_wp2_with fail
      go_region_held3 (fun w' => w'.cell? ⟨b, off + k * 3, none⟩ = some (.int .i64 x) ∧ w'.cell? ⟨b, off + k * 3 + 1, none⟩ = some (.int .i64 y) ∧ w'.cell? ⟨b, off + k * 3 + 2, none⟩ = some (.int .i64 z))
        (first | exact HC.out _ HB2d.out | exact HC.out _ HB2a.out | (have := HB'.out; exact HC.out _ this))
        (first
          | (refine step_cat (bytes := 24) (base := w.heap.size) enc3_len enc3_one (Nat.succ_pos 2) rfl (.tmp 20) (.tmp 41) _ rfl Try.underlying23 info_conP rfl _ (turned n (xs.take k)) rfl O2a.out rfl S1.out N.out.1 N.out.2 HB2a.out.size ?_; intro v' w' hown' hg'; have HB' := Lib.hid (below_grown HB2a.out hg' O2a.out (Nat.le_refl _)); have HO' := Lib.hid hown'; clear hown' hg'))
      clear e1 e2
      go_wp2
      go_roundw
      case rel => exact ⟨k + 1, by omega, by go_num, by rw [HX.out]; exact HO'.out, HB'.out⟩
      case measure => simp [intOf]; omega
    · have hx : xs.take k = xs := List.take_of_length_le (by have := H.out.len; omega)
      rw [hx] at HO
      clear hx
      go_wp2_with (go_at_call 18; refine (specBillValid_any A n len cap xs _ (H.out.below HR.out) hn).mono ?_; intro e w2 hp; obtain ⟨rfl, hb2⟩ := hp.yes HB.out; have HB2 := Lib.hid (below_trans HR.out hb2); have HO2 := Lib.hid (HO.out.below hb2 (Nat.le_refl _)); clear hb2 hp)
      go_ret2
      exact ⟨_, rfl, HO2.out, HB2.out⟩

set_option maxRecDepth 20000 in
set_option maxHeartbeats 1600000 in
theorem specBillTurn_no (A : Option Addr) (n : Int) (len cap : Nat) (xs : List T3) (w : World) (h : SlE 3 enc3 w A len xs) (hn : len ≤ 16777216) (hB : ¬ BillOk n xs) :
    Calls Try.prog 29 #[.int .i64 n, .slice A len cap] w (RetOwnB 3 enc3 28 ([] : List T3) false w) := by
  have H := Lib.hid h
  clear h
  have HB := Lib.hid hB
  clear hB
  go_enter Try.func29, Try.ntmps29
  go_wp2
  go_loopw [6, 7] (fun s i wr => i = .int .i64 0 ∧ OwnE 3 enc3 28 w.heap.size wr s ([] : List T3) ∧ Below w.heap.size w wr) (fun _ i _ => len - (intOf i).toNat)
  case atStart => exact ⟨rfl, own_new w _ _ (Nat.le_refl _) enc3_len [] #[] rfl (by simp) rfl, below_alloc (Below.refl _ _) _⟩
  case round =>
    obtain ⟨rfl, hown, hbr⟩ := hrel
    have HO := Lib.hid hown
    have HR := Lib.hid hbr
    clear hown hbr
    by_cases hlt : 0 < len
    · have hlt' : (0 : Int) < (len : Int) := by omega
      go_wp2_with fail
      refine (specBillValid_any A n len cap xs _ (H.out.below HR.out) hn).mono ?_
      intro e w2 hp
      obtain ⟨rfl, hb2⟩ := hp.no HB.out
      have HB2 := Lib.hid (below_trans HR.out hb2)
      have HO2 := Lib.hid (HO.out.below hb2 (Nat.le_refl _))
      clear hb2 hp
      go_wp2_with fail
      refine (specBillValid_any A n len cap xs _ (H.out.below HB2.out) hn).mono ?_
      intro e w3 hp
      obtain ⟨rfl, hb3⟩ := hp.no HB.out
      have HB3 := Lib.hid (below_trans HB2.out hb3)
      have HO3 := Lib.hid (HO2.out.below hb3 (Nat.le_refl _))
      clear hb3 hp
      go_wp2
      go_ret2
      exact ⟨_, rfl, HO3.out, HB3.out⟩
    · have hlt' : ¬ (0 : Int) < (len : Int) := by omega
      go_wp2_with (go_at_call 18; refine (specBillValid_any A n len cap xs _ (H.out.below HR.out) hn).mono ?_; intro e w2 hp; obtain ⟨rfl, hb2⟩ := hp.no HB.out; have HB2 := Lib.hid (below_trans HR.out hb2); have HO2 := Lib.hid (HO.out.below hb2 (Nat.le_refl _)); clear hb2 hp)
      go_ret2
      exact ⟨_, rfl, HO2.out, HB2.out⟩

set_option maxRecDepth 20000 in
set_option maxHeartbeats 1600000 in
theorem implBillTurn_yes (A : Option Addr) (n : Int) (len cap : Nat) (xs : List T3) (w : World) (h : SlE 3 enc3 w A len xs) (hn : len ≤ 16777216) (hB : BillOk n xs) :
    Calls Try.prog 23 #[.int .i64 n, .slice A len cap] w (RetOwnB 3 enc3 28 (turned n xs) true w) := by
  have H := Lib.hid h
  clear h
  have hr1 := hB.1
  have hr2 := hB.2.1
  have HB := Lib.hid hB
  clear hB
  go_enter Try.func23, Try.ntmps23
  go_wp2_with fail
  refine (implBillValid_any A n len cap xs _ (H.out.alloc _) hn).mono ?_
  intro e w1 hp
  obtain ⟨rfl, hb1⟩ := hp.yes HB.out
  have HB1 := Lib.hid (below_trans (below_alloc (Below.refl _ w) _) hb1)
  have HO1 := Lib.hid ((own_new w 28 _ (Nat.le_refl _) enc3_len [] #[] rfl (by simp) rfl).below hb1 (Nat.le_refl _))
  clear hb1 hp
  go_wp2
  go_loopw [6, 17, 8] (fun s i _ wr => ∃ k : Nat, k ≤ len ∧ i = .int .i64 k ∧ OwnE 3 enc3 28 w.heap.size wr s (turned n (xs.take k)) ∧ Below w.heap.size w wr) (fun _ i _ _ => len - (intOf i).toNat)
  case atStart => exact ⟨0, by omega, rfl, HO1.out, HB1.out⟩
  case round =>
    obtain ⟨k, hk, rfl, hown, hbr⟩ := hrel
    have HO := Lib.hid hown
    have HR := Lib.hid hbr
    clear hown hbr
    by_cases hlt : k < len
    · obtain ⟨b, off, x, y, z, rfl, hbl, hx, hd, h0, h1, h2⟩ := at3 H.out HR.out hlt
      have hok := HB.out.2.2.2.1 _ (mem_at hx)
      unfold OkP at hok
      simp only at hok
      have HX := Lib.hid (turned_next (n := n) hx)
      have hlen : (turned n (xs.take k)).length ≤ k := by rw [turned_len]; exact List.length_take_le _ _
      have hsz := HR.out.size
      clear hx hd
      go_wp2_with (at_builtin; refine wpList_push 3 24 28 enc3 enc3_len enc3_one (by omega) ⟨n - y, n - x, z⟩ _ _ rfl rfl _ _ _ rfl Try.underlying23 info_conP rfl w.heap.size _ (turned n (xs.take k)) rfl rfl (by simp) (HO.out.alloc _) (by omega) (by unfold maxLen; omega) (by simp; omega) ?_; intro v' w' hown' hg'; have HO' := Lib.hid hown'; have HB' := Lib.hid (below_grown (below_alloc HR.out _) hg' (HO.out.alloc _) (Nat.le_refl _)); clear hown' hg')
      go_roundw
      case rel => exact ⟨k + 1, by omega, by go_num, by rw [HX.out]; exact HO'.out, HB'.out⟩
      case measure => simp [intOf]; omega
    · have hx : xs.take k = xs := List.take_of_length_le (by have := H.out.len; omega)
      rw [hx] at HO
      clear hx
      go_wp2
      go_ret2
      exact ⟨_, rfl, HO.out, HR.out⟩
set_option maxRecDepth 20000 in
set_option maxHeartbeats 800000 in
theorem implBillTurn_no (A : Option Addr) (n : Int) (len cap : Nat) (xs : List T3) (w : World) (h : SlE 3 enc3 w A len xs) (hn : len ≤ 16777216) (hB : ¬ BillOk n xs) :
    Calls Try.prog 23 #[.int .i64 n, .slice A len cap] w (RetOwnB 3 enc3 28 ([] : List T3) false w) := by
  have H := Lib.hid h
  clear h
  have HB := Lib.hid hB
  clear hB
  go_enter Try.func23, Try.ntmps23
  go_wp2_with fail
  refine (implBillValid_any A n len cap xs _ (H.out.alloc _) hn).mono ?_
  intro e w1 hp
  obtain ⟨rfl, hb1⟩ := hp.no HB.out
  have HB1 := Lib.hid (below_trans (below_alloc (Below.refl _ w) _) hb1)
  have HO1 := Lib.hid ((own_new w 28 _ (Nat.le_refl _) enc3_len [] #[] rfl (by simp) rfl).below hb1 (Nat.le_refl _))
  clear hb1 hp
  go_wp2
  go_ret2
  exact ⟨_, rfl, HO1.out, HB1.out⟩

set_option maxRecDepth 20000 in
set_option maxHeartbeats 1600000 in
theorem specBillLoads_yes (A : Option Addr) (n : Nat) (len cap : Nat) (xs : List T3) (w : World) (h : SlE 3 enc3 w A len xs) (hn : len ≤ 16777216) (hB : BillOk n xs) :
    Calls Try.prog 25 #[.int .i64 n, .slice A len cap] w (RetOwnB 1 encI 3 (loads xs n) true w) := by
  have H := Lib.hid h
  clear h
  have hr1 := hB.1
  have hr2 := hB.2.1
  have HB := Lib.hid hB
  clear hB
  go_enter Try.func25, Try.ntmps25
  go_wp2
  go_loopw [6, 7] (fun s i wr => ∃ k : Nat, k ≤ n ∧ i = .int .i64 k ∧ OwnE 1 encI 3 w.heap.size wr s (loads xs k) ∧ Below w.heap.size w wr) (fun _ i _ => n - (intOf i).toNat)
  case atStart => exact ⟨0, by omega, rfl, own_new w _ _ (Nat.le_refl _) encI_len [] #[] rfl (by simp) rfl, below_alloc (Below.refl _ _) _⟩
  case round =>
    obtain ⟨k, hk, rfl, hown, hbr⟩ := hrel
    have HO := Lib.hid hown
    have HR := Lib.hid hbr
    clear hown hbr
    by_cases hlt : k < n
    · have hlt' : (k : Int) < (n : Int) := by omega
      go_wp2_with fail
      refine (specBillValid_any A n len cap xs _ (H.out.below HR.out) hn).mono ?_
      intro e w2 hp
      obtain ⟨rfl, hb2⟩ := hp.yes HB.out
      have HB2 := Lib.hid (below_trans HR.out hb2)
      have HO2 := Lib.hid (HO.out.below hb2 (Nat.le_refl _))
      clear hb2 hp
      have HX := Lib.hid (loads_next xs k)
      have hlen := loads_len xs k
      have hsz := HB2.out.size
      have hc : ∀ W, SlE 3 enc3 W A len xs → Calls Try.prog 69 #[.slice A len cap, .int .i64 k] W (Same (.int .i64 (load xs k)) W) := fun W hW => l9Load_any _ _ _ _ _ _ hW hn (okP_w HB.out.2.2.2.1)
      have HC := Lib.hid hc
      clear hc
      have HL := Lib.hid hlen
      clear hlen
      generalize load xs k = r at *
      go_wp2_with (first
        | (go_at_call 69; refine (HC.out _ (H.out.below HB2.out)).mono ?_; rintro e w3 ⟨rfl, rfl⟩)
        | (at_builtin; refine wpList_push 1 8 3 encI encI_len encI_one (by omega) r _ _ rfl rfl _ _ _ rfl Try.underlying29 info_int rfl w.heap.size _ (loads xs k) rfl rfl (by simp) HO2.out (by rw [HL.out]; omega) (by rw [HL.out]; unfold maxLen; omega) hsz ?_; intro v' w' hown' hg'; have HO' := Lib.hid hown'; have HB' := Lib.hid (below_grown HB2.out hg' HO2.out (Nat.le_refl _)); clear hown' hg'))
      go_roundw
      case rel => exact ⟨k + 1, by omega, by go_num, by rw [HX.out]; exact HO'.out, HB'.out⟩
      case measure => simp [intOf]; omega
    · have e : k = n := by omega
      subst e
      go_wp2_with (go_at_call 18; refine (specBillValid_any A k len cap xs _ (H.out.below HR.out) hn).mono ?_; intro e w2 hp; obtain ⟨rfl, hb2⟩ := hp.yes HB.out; have HB2 := Lib.hid (below_trans HR.out hb2); have HO2 := Lib.hid (HO.out.below hb2 (Nat.le_refl _)); clear hb2 hp)
      go_ret2
      exact ⟨_, rfl, HO2.out, HB2.out⟩
set_option maxRecDepth 20000 in
set_option maxHeartbeats 1600000 in
theorem specBillLoads_no (A : Option Addr) (n : Int) (len cap : Nat) (xs : List T3) (w : World) (h : SlE 3 enc3 w A len xs) (hn : len ≤ 16777216) (hB : ¬ BillOk n xs) :
    Calls Try.prog 25 #[.int .i64 n, .slice A len cap] w (RetOwnB 1 encI 3 [] false w) := by
  have H := Lib.hid h
  clear h
  have HB := Lib.hid hB
  clear hB
  go_enter Try.func25, Try.ntmps25
  go_wp2
  go_loopw [6, 7] (fun s i wr => i = .int .i64 0 ∧ OwnE 1 encI 3 w.heap.size wr s [] ∧ Below w.heap.size w wr) (fun _ i _ => (intOf i).toNat)
  case atStart => exact ⟨rfl, own_new w _ _ (Nat.le_refl _) encI_len [] #[] rfl (by simp) rfl, below_alloc (Below.refl _ _) _⟩
  case round =>
    obtain ⟨rfl, hown, hbr⟩ := hrel
    have HO := Lib.hid hown
    have HR := Lib.hid hbr
    clear hown hbr
    by_cases hlt : 0 < n
    · go_wp2_with fail
      refine (specBillValid_any A n len cap xs _ (H.out.below HR.out) hn).mono ?_
      intro e w2 hp
      obtain ⟨rfl, hb2⟩ := hp.no HB.out
      have HB2 := Lib.hid (below_trans HR.out hb2)
      have HO2 := Lib.hid (HO.out.below hb2 (Nat.le_refl _))
      clear hb2 hp
      go_wp2_with fail
      refine (specBillValid_any A n len cap xs _ (H.out.below HB2.out) hn).mono ?_
      intro e w3 hp
      obtain ⟨rfl, hb3⟩ := hp.no HB.out
      have HB3 := Lib.hid (below_trans HB2.out hb3)
      have HO3 := Lib.hid (HO2.out.below hb3 (Nat.le_refl _))
      clear hb3 hp
      go_wp2
      go_ret2
      exact ⟨_, rfl, HO3.out, HB3.out⟩
    · go_wp2_with (go_at_call 18; refine (specBillValid_any A n len cap xs _ (H.out.below HR.out) hn).mono ?_; intro e w2 hp; obtain ⟨rfl, hb2⟩ := hp.no HB.out; have HB2 := Lib.hid (below_trans HR.out hb2); have HO2 := Lib.hid (HO.out.below hb2 (Nat.le_refl _)); clear hb2 hp)
      go_ret2
      exact ⟨_, rfl, HO2.out, HB2.out⟩

set_option maxRecDepth 20000 in
set_option maxHeartbeats 1600000 in
theorem implBillLoads_yes (A : Option Addr) (n : Nat) (len cap : Nat) (xs : List T3) (w : World) (h : SlE 3 enc3 w A len xs) (hn : len ≤ 16777216) (hB : BillOk n xs) :
    Calls Try.prog 19 #[.int .i64 n, .slice A len cap] w (RetOwnB 1 encI 3 (loads xs n) true w) := by
  have H := Lib.hid h
  clear h
  have hr1 := hB.1
  have hr2 := hB.2.1
  have HB := Lib.hid hB
  clear hB
  go_enter Try.func19, Try.ntmps19
  go_wp2_with fail
  refine (implBillValid_any A n len cap xs _ (H.out.alloc _) hn).mono ?_
  intro e w1 hp
  obtain ⟨rfl, hb1⟩ := hp.yes HB.out
  have HB1 := Lib.hid (below_trans (below_alloc (Below.refl _ w) _) hb1)
  have HO1 := Lib.hid ((own_new w 3 _ (Nat.le_refl _) encI_len [] #[] rfl (by simp) rfl).below hb1 (Nat.le_refl _))
  clear hb1 hp
  go_wp2
  go_loopw [6, 15, 7] (fun s i _ wr => ∃ k : Nat, k ≤ n ∧ i = .int .i64 k ∧ OwnE 1 encI 3 w.heap.size wr s (loads xs k) ∧ Below w.heap.size w wr) (fun _ i _ _ => n - (intOf i).toNat)
  case atStart => exact ⟨0, by omega, rfl, HO1.out, HB1.out⟩
  case round =>
    obtain ⟨k, hk, rfl, hown, hbr⟩ := hrel
    have HO := Lib.hid hown
    have HR := Lib.hid hbr
    clear hown hbr
    by_cases hlt : k < n
    · have hlt' : (k : Int) < (n : Int) := by omega
      have HX := Lib.hid (loads_next xs k)
      have hlen := loads_len xs k
      have hsz := HR.out.size
      have hc : ∀ W, SlE 3 enc3 W A len xs → Calls Try.prog 67 #[.slice A len cap, .int .i64 k] W (Only (.int .i64 (load xs k)) W) := fun W hW => loadOn_any _ _ _ _ _ _ hW hn (okP_w HB.out.2.2.2.1)
      have HC := Lib.hid hc
      clear hc
      have HL := Lib.hid hlen
      clear hlen
      generalize load xs k = r at *
      go_wp2_with (first
        | (go_at_call 67; refine (HC.out _ (H.out.below HR.out)).mono ?_; rintro e w2 ⟨rfl, hb2⟩; have HB2 := Lib.hid (below_trans HR.out hb2); have HO2 := Lib.hid (HO.out.below hb2 (Nat.le_refl _)); have hsz2 := HB2.out.size; clear hb2)
        | (at_builtin; refine wpList_push 1 8 3 encI encI_len encI_one (by omega) r _ _ rfl rfl _ _ _ rfl Try.underlying29 info_int rfl w.heap.size _ (loads xs k) rfl rfl (by simp) HO2.out (by rw [HL.out]; omega) (by rw [HL.out]; unfold maxLen; omega) hsz2 ?_; intro v' w' hown' hg'; have HO' := Lib.hid hown'; have HB' := Lib.hid (below_grown HB2.out hg' HO2.out (Nat.le_refl _)); clear hown' hg'))
      go_roundw
      case rel => exact ⟨k + 1, by omega, by go_num, by rw [HX.out]; exact HO'.out, HB'.out⟩
      case measure => simp [intOf]; omega
    · have e : k = n := by omega
      subst e
      go_wp2
      go_ret2
      exact ⟨_, rfl, HO.out, HR.out⟩
set_option maxRecDepth 20000 in
set_option maxHeartbeats 800000 in
theorem implBillLoads_no (A : Option Addr) (n : Int) (len cap : Nat) (xs : List T3) (w : World) (h : SlE 3 enc3 w A len xs) (hn : len ≤ 16777216) (hB : ¬ BillOk n xs) :
    Calls Try.prog 19 #[.int .i64 n, .slice A len cap] w (RetOwnB 1 encI 3 [] false w) := by
  have H := Lib.hid h
  clear h
  have HB := Lib.hid hB
  clear hB
  go_enter Try.func19, Try.ntmps19
  go_wp2_with fail
  refine (implBillValid_any A n len cap xs _ (H.out.alloc _) hn).mono ?_
  intro e w1 hp
  obtain ⟨rfl, hb1⟩ := hp.no HB.out
  have HB1 := Lib.hid (below_trans (below_alloc (Below.refl _ w) _) hb1)
  have HO1 := Lib.hid ((own_new w 3 _ (Nat.le_refl _) encI_len [] #[] rfl (by simp) rfl).below hb1 (Nat.le_refl _))
  clear hb1 hp
  go_wp2
  go_ret2
  exact ⟨_, rfl, HO1.out, HB1.out⟩
end Go.Proofs.Ytdfgogcefnamcaa
