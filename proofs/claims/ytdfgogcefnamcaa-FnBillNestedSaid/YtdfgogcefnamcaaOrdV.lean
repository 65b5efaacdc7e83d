/- Contracts: SortStableFunc of at most twelve parcels, Clone, BillOrder of the program. -/
import Derived.Test.YtdfgogcefnamcaaOrdW
import Derived.Lib.SliceRun
set_option linter.unusedVariables false
namespace Go.Proofs.Ytdfgogcefnamcaa
open Go.RowKit

set_option maxRecDepth 20000 in
set_option maxHeartbeats 1600000 in
theorem stableP_any (base g n c : Nat) (l : List T3) (w : World) (h : OwnE 3 enc3 28 base w (.slice (some ⟨g, 0, none⟩) n c) l) (hl : l.length = n) (hn : n ≤ 12) :
    Calls Try.prog 87 #[.slice (some ⟨g, 0, none⟩) n c, .int .i64 n, .func (.func 78) #[] #[]] w (SortsP base g n c (isort lessP l) w) := by
  have HI := Lib.hid (insSortP_any base g n c l w h hl (by omega))
  have h12 : (n : Int) ≤ 12 := by omega
  clear h hl
  go_enter Try.func87, Try.ntmps87
  go_wp2_with fail
  go_loopw [7, 8] (fun a b wr => a = .int .i64 0 ∧ b = .int .i64 20 ∧ w = wr) (fun _ _ _ => 0)
  case atStart => exact ⟨rfl, rfl, rfl⟩
  case round =>
    obtain ⟨rfl, rfl, rfl⟩ := hrel
    go_wp2_with fail
    refine HI.out.mono ?_
    rintro e w2 ⟨rfl, ho, hg⟩
    have HO := Lib.hid ho
    have HGR := Lib.hid hg
    clear ho hg HI
    go_wp2_with fail
    go_loopw [6, 7, 8, 9] (fun a _ _ _ wr => a = .int .i64 20 ∧ w2 = wr) (fun _ _ _ _ _ => 0)
    case atStart => exact ⟨rfl, rfl⟩
    case round =>
      obtain ⟨rfl, rfl⟩ := hrel
      go_wp2_with fail
      go_end0
      exact ⟨rfl, HO.out, HGR.out⟩
set_option maxRecDepth 20000 in
set_option maxHeartbeats 1600000 in
theorem sortStableP_any (base g n c : Nat) (l : List T3) (w : World) (h : OwnE 3 enc3 28 base w (.slice (some ⟨g, 0, none⟩) n c) l) (hl : l.length = n) (hn : n ≤ 12) :
    Calls Try.prog 77 #[.slice (some ⟨g, 0, none⟩) n c, .func (.func 78) #[] #[]] w (SortsP base g n c (isort lessP l) w) := by
  have HI := Lib.hid (stableP_any base g n c l w h hl hn)
  clear h hl
  go_enter Try.func77, Try.ntmps77
  go_wp2_with fail
  refine HI.out.mono ?_
  rintro e w2 ⟨rfl, ho, hg⟩
  have HO := Lib.hid ho
  have HGR := Lib.hid hg
  clear ho hg HI
  go_wp2_with fail
  go_end0
  exact ⟨rfl, HO.out, HGR.out⟩

set_option maxRecDepth 20000 in
set_option maxHeartbeats 1600000 in
theorem cloneP_any (b off n c : Nat) (xs : List T3) (w : World) (h : SlE 3 enc3 w (some ⟨b, off, none⟩) n xs) (hn : n ≤ 16) :
    Calls Try.prog 76 #[.slice (some ⟨b, off, none⟩) n c] w (RetOwn 3 enc3 28 xs w) := by
  have H := Lib.hid h
  have HL := Lib.hid h.len
  clear h
  have O1 := Lib.hid (own_new (enc := enc3) (k := 3) w 28 w.heap.size (Nat.le_refl _) enc3_len [] #[] rfl (by simp) rfl)
  have S1 := Lib.hid (H.out.alloc (.cells #[] 28))
  have B1 := Lib.hid (below_alloc (Below.refl w.heap.size w) (.cells #[] 28))
  have qT : ∀ (w : World) (a : Option Addr) (n c : Nat), (binOp .eql 23 (.slice a n c) (.slice none 0 0)).run Try.prog w = .ok (.bool a.isNone) w := fun w a n c => Lib.run_eql_slice_nil w _ _ a n c 0 0 Try.underlying23
  go_enter Try.func76, Try.ntmps76
  go_wp2_with (at_builtin; refine wpList_cat (bytes := 24) (base := w.heap.size) enc3_len enc3_one (by omega) rfl _ _ _ rfl Try.underlying23 info_conP rfl _ [] rfl O1.out rfl S1.out (by simp; omega) (by simp [maxLen]; omega) (by simp) ?_; intro v' w' hown' hg'; have O2 := Lib.hid hown'; have B2 := Lib.hid (below_grown B1.out hg' O1.out (Nat.le_refl _)); clear hown' hg')
  go_ret
  exact ⟨_, rfl, O2.out, B2.out⟩
set_option maxRecDepth 20000 in
set_option maxHeartbeats 1600000 in
theorem cloneNil_any (n c : Nat) (w : World) :
    Calls Try.prog 76 #[.slice none n c] w (Same (.slice none 0 0) w) := by
  have qT : ∀ (w : World) (a : Option Addr) (n c : Nat), (binOp .eql 23 (.slice a n c) (.slice none 0 0)).run Try.prog w = .ok (.bool a.isNone) w := fun w a n c => Lib.run_eql_slice_nil w _ _ a n c 0 0 Try.underlying23
  go_enter Try.func76, Try.ntmps76
  go_wp2_with fail
  go_ret
  exact ⟨rfl, rfl⟩

set_option maxRecDepth 20000 in
set_option maxHeartbeats 1600000 in
theorem cloneSub_any (b off : Nat) (s : _) (c : Nat) (w : World) :
    Calls Try.prog 76 #[.slice (some ⟨b, off, some s⟩) 0 c] w (RetOwn 3 enc3 28 [] w) := by
  have O1 := Lib.hid (own_new (enc := enc3) (k := 3) w 28 w.heap.size (Nat.le_refl _) enc3_len [] #[] rfl (by simp) rfl)
  have S1 : Hid (SlE 3 enc3 (w.alloc (.cells #[] 28)) (some ⟨b, off, some s⟩) 0 ([] : List T3)) := ⟨rfl, fun h => absurd h (by omega)⟩
  have B1 := Lib.hid (below_alloc (Below.refl w.heap.size w) (.cells #[] 28))
  have qT : ∀ (w : World) (a : Option Addr) (n c : Nat), (binOp .eql 23 (.slice a n c) (.slice none 0 0)).run Try.prog w = .ok (.bool a.isNone) w := fun w a n c => Lib.run_eql_slice_nil w _ _ a n c 0 0 Try.underlying23
  go_enter Try.func76, Try.ntmps76
  go_wp2_with (at_builtin; refine wpList_cat (bytes := 24) (base := w.heap.size) enc3_len enc3_one (by omega) rfl _ _ _ rfl Try.underlying23 info_conP rfl _ [] rfl O1.out rfl S1.out (by simp) (by simp) (by simp) ?_; intro v' w' hown' hg'; have O2 := Lib.hid hown'; have B2 := Lib.hid (below_grown B1.out hg' O1.out (Nat.le_refl _)); clear hown' hg')
  go_ret
  exact ⟨_, rfl, O2.out, B2.out⟩
theorem own_nilP (w : World) : OwnE 3 enc3 28 w.heap.size w (.slice none 0 0) ([] : List T3) := ⟨by simp, .inl ⟨rfl, rfl⟩⟩
set_option maxRecDepth 20000 in
set_option maxHeartbeats 1600000 in
theorem sortEmpty_any (A : Option Addr) (c : Nat) (w : World) :
    Calls Try.prog 77 #[.slice A 0 c, .func (.func 78) #[] #[]] w (Same (.tuple #[]) w) := by
  have h1 : Calls Try.prog 91 #[.slice A 0 c, .int .i64 0, .int .i64 0, .func (.func 78) #[] #[]] w (Same (.tuple #[]) w) := by
    go_enter Try.func91, Try.ntmps91
    go_wp2_with fail
    go_loopw [8, 9] (fun i _ wr => i = .int .i64 1 ∧ w = wr) (fun _ _ _ => 0)
    case atStart => exact ⟨rfl, rfl⟩
    case round =>
      obtain ⟨rfl, rfl⟩ := hrel
      go_wp2_with fail
      go_end0
      exact ⟨rfl, rfl⟩
  have HI := Lib.hid h1
  clear h1
  have h2 : Calls Try.prog 87 #[.slice A 0 c, .int .i64 0, .func (.func 78) #[] #[]] w (Same (.tuple #[]) w) := by
    go_enter Try.func87, Try.ntmps87
    go_wp2_with fail
    go_loopw [7, 8] (fun a b wr => a = .int .i64 0 ∧ b = .int .i64 20 ∧ w = wr) (fun _ _ _ => 0)
    case atStart => exact ⟨rfl, rfl, rfl⟩
    case round =>
      obtain ⟨rfl, rfl, rfl⟩ := hrel
      go_wp2_with fail
      refine HI.out.mono ?_
      rintro e w2 ⟨rfl, rfl⟩
      go_wp2_with fail
      go_loopw [6, 7, 8, 9] (fun a _ _ _ wr => a = .int .i64 20 ∧ w = wr) (fun _ _ _ _ _ => 0)
      case atStart => exact ⟨rfl, rfl⟩
      case round =>
        obtain ⟨rfl, rfl⟩ := hrel
        go_wp2_with fail
        go_end0
        exact ⟨rfl, rfl⟩
  have HS := Lib.hid h2
  clear h2 HI
  go_enter Try.func77, Try.ntmps77
  go_wp2_with fail
  refine HS.out.mono ?_
  rintro e w2 ⟨rfl, rfl⟩
  go_wp2_with fail
  go_end0
  exact ⟨rfl, rfl⟩
/-- Clone of whatever slice of parcels. -/
theorem clone_any (A : Option Addr) (n c : Nat) (xs : List T3) (w : World) (h : SlE 3 enc3 w A n xs) (hn : n ≤ 16) :
    Calls Try.prog 76 #[.slice A n c] w (RetOwn 3 enc3 28 xs w) := by
  rcases Nat.eq_zero_or_pos n with e | e
  · subst e
    obtain rfl := List.eq_nil_of_length_eq_zero h.len
    rcases A with _ | a
    · refine (cloneNil_any 0 c w).mono ?_
      rintro e w' ⟨rfl, rfl⟩
      exact ⟨_, rfl, own_nilP w, Below.refl _ _⟩
    · obtain ⟨b, off, sub⟩ := a
      rcases sub with _ | s
      · exact cloneP_any b off 0 c [] w h hn
      · exact cloneSub_any b off s c w
  · obtain ⟨b, off, rfl, _⟩ := h.2 e
    exact cloneP_any b off n c xs w h hn

/-- What BillOrder returns. -/
def OrderIs (n : Int) (xs ys : List T3) (b : Bool) : Prop := (b = true ∧ BillOk n xs ∧ ys = isort lessP xs) ∨ (b = false ∧ ¬ BillOk n xs ∧ ys = [])
set_option maxRecDepth 20000 in
set_option maxHeartbeats 3200000 in
theorem implBillOrder_any (A : Option Addr) (n : Int) (len cap : Nat) (xs ys : List T3) (b : Bool) (w : World) (h : SlE 3 enc3 w A len xs) (hn : len ≤ 1048576) (hy : OrderIs n xs ys b) :
    Calls Try.prog 55 #[.int .i64 n, .slice A len cap] w (RetOwnB 3 enc3 28 ys b w) := by
  have H := Lib.hid h
  have HL := Lib.hid h.len
  clear h
  rcases hy with ⟨rfl, hB, rfl⟩ | ⟨rfl, hB, rfl⟩
  · have HB := Lib.hid hB
    have hl12 := hB.2.2.1
    rw [HL.out] at hl12
    clear hB
    go_enter Try.func55, Try.ntmps55
    go_wp2_with fail
    refine (implBillValid_any A n len cap xs w H.out (by omega)).mono ?_
    intro e w1 hp
    obtain ⟨rfl, hb1⟩ := hp.yes HB.out
    have HB1 := Lib.hid hb1
    clear hb1 hp
    go_wp2_with fail
    refine (clone_any A len cap xs w1 (H.out.below HB1.out) (by omega)).mono ?_
    rintro e w2 ⟨v2, rfl, hown2, hb2⟩
    have hz := HB1.out.size
    have HB2 := Lib.hid (below_trans HB1.out hb2)
    have HO2 := Lib.hid (hown2.base_le hz)
    obtain ⟨A2, c2, rfl, -, -⟩ := hown2.slc enc3_len HL.out
    clear hown2 hb2
    rcases Nat.eq_zero_or_pos len with e | e
    · subst e
      have HX := Lib.hid (List.eq_nil_of_length_eq_zero HL.out)
      rw [HX.out] at HO2
      have HI : Hid (isort lessP xs = []) := by rw [HX.out]; rfl
      go_wp2_with fail
      refine (sortEmpty_any A2 c2 w2).mono ?_
      rintro e w3 ⟨rfl, rfl⟩
      go_wp2_with fail
      go_ret2
      exact ⟨_, rfl, by rw [HI.out]; exact HO2.out, HB2.out⟩
    · obtain ⟨g, rfl, -, hg0, hg1, -⟩ := HO2.out.form (by rw [HL.out]; exact e)
      go_wp2_with fail
      refine (sortStableP_any w.heap.size g len c2 xs w2 HO2.out HL.out hl12).mono ?_
      rintro e w3 ⟨rfl, ho, hg⟩
      have HO3 := Lib.hid ho
      have HB3 := Lib.hid (HB2.out.grown hg HB2.out.size (fun j hj => by injection hj with hj; omega))
      clear ho hg
      go_wp2_with fail
      go_ret2
      exact ⟨_, rfl, HO3.out, HB3.out⟩
  · have HB := Lib.hid hB
    clear hB
    go_enter Try.func55, Try.ntmps55
    go_wp2_with fail
    refine (implBillValid_any A n len cap xs w H.out (by omega)).mono ?_
    intro e w1 hp
    obtain ⟨rfl, hb1⟩ := hp.no HB.out
    have HO1 := Lib.hid (own_new (enc := enc3) (k := 3) w1 28 w.heap.size hb1.size enc3_len [] #[] rfl (by simp) rfl)
    have HB1 := Lib.hid (below_alloc hb1 (.cells #[] 28))
    clear hb1 hp
    go_wp2_with fail
    go_ret2
    exact ⟨_, rfl, HO1.out, HB1.out⟩

theorem ord_len {n : Nat} {xs : List T3} (hn : n ≤ 7) (hl : xs.length ≤ 12) (f m k : Nat) (hf : f ≤ 7) (hm : m ≤ 7) : (outO n xs f ++ inn n xs f m ++ cls (xs.take k) f ((n : Int) - m)).length ≤ 1000 := by
  have h1 := out_len n xs hn f
  have h2 := inn_len n xs f m
  have h3 := cls_len (xs.take k) f ((n : Int) - m)
  have h4 : (xs.take k).length ≤ xs.length := by rw [List.length_take]; omega
  have h5 : f * (7 * xs.length) ≤ 7 * (7 * 12) := Nat.mul_le_mul hf (by omega)
  have h6 : m * xs.length ≤ 7 * 12 := Nat.mul_le_mul hm hl
  rw [List.length_append, List.length_append]
  omega
set_option maxRecDepth 20000 in
set_option maxHeartbeats 6400000 in
theorem specBillOrder_any (A : Option Addr) (n : Int) (len cap : Nat) (xs ys : List T3) (b : Bool) (w : World) (h : SlE 3 enc3 w A len xs) (hn : len ≤ 1048576) (hy : OrderIs n xs ys b) :
    Calls Try.prog 56 #[.int .i64 n, .slice A len cap] w (RetOwnB 3 enc3 28 ys b w) := by
  have H := Lib.hid h
  have HL := Lib.hid h.len
  clear h
  rcases hy with ⟨rfl, hB, rfl⟩ | ⟨rfl, hB, rfl⟩
  · obtain ⟨n, rfl⟩ : ∃ i : Nat, n = i := ⟨n.toNat, by have := hB.1; omega⟩
    have hn7 : n ≤ 7 := by have := hB.2.1; omega
    have HB := Lib.hid hB
    have HLEN := Lib.hid (fun (f m k : Nat) (hf : f ≤ 7) (hm : m ≤ 7) => ord_len (xs := xs) hn7 hB.2.2.1 f m k hf hm)
    have HEQ := Lib.hid (order_eq hB.2.2.2.1)
    rw [← HEQ.out]
    clear hB
    go_enter Try.func56, Try.ntmps56
    go_wp2_with fail
    go_loopw [7, 6, 8, 9] (fun i s _ _ wr => ∃ f : Nat, f ≤ n ∧ i = .int .i64 f ∧ OwnE 3 enc3 28 w.heap.size wr s (outO n xs f) ∧ Below w.heap.size w wr) (fun i _ _ _ _ => n - (intOf i).toNat)
    case atStart => exact ⟨0, by omega, rfl, own_new w _ _ (Nat.le_refl _) enc3_len [] #[] rfl (by simp) rfl, below_alloc (Below.refl _ _) _⟩
    case round =>
      obtain ⟨f, hf, rfl, hown, hbr⟩ := hrel
      have HO := Lib.hid hown
      have HR := Lib.hid hbr
      clear hown hbr
      by_cases hlt : f < n
      · go_wp2_with fail
        refine (specBillValid_any A n len cap xs _ (H.out.below HR.out) (by omega)).mono ?_
        intro e w2 hp
        obtain ⟨rfl, hb2⟩ := hp.yes HB.out
        have HR2 := Lib.hid (below_trans HR.out hb2)
        have HO2 := Lib.hid (HO.out.below hb2 (Nat.le_refl _))
        clear hb2 hp HO HR
        have HSO := Lib.hid (show outO n xs (f + 1) = outO n xs f ++ inn n xs f (n - f) from rfl)
        go_wp2_with fail
        go_loopw [8, 6, 9] (fun i s _ wr => ∃ m : Nat, m ≤ n - f ∧ i = .int .i64 ((n : Int) - m) ∧ OwnE 3 enc3 28 w.heap.size wr s (outO n xs f ++ inn n xs f m) ∧ Below w.heap.size w wr) (fun i _ _ _ => (intOf i).toNat)
        case atStart => exact ⟨0, by omega, by go_num, by rw [show inn n xs f 0 = [] from rfl, List.append_nil]; exact HO2.out, HR2.out⟩
        case round =>
          obtain ⟨m, hm, rfl, hown, hbr⟩ := hrel
          have HO3 := Lib.hid hown
          have HR3 := Lib.hid hbr
          clear hown hbr
          by_cases hlm : m < n - f
          · have hgt : (f : Int) < (n : Int) - m := by omega
            have HSI := Lib.hid (show inn n xs f (m + 1) = inn n xs f m ++ cls xs f ((n : Int) - m) from rfl)
            have HLN := Lib.hid (fun k => HLEN.out f m k (by omega) (by omega))
            generalize hP : outO n xs f ++ inn n xs f m = P at *
            have HP := Lib.hid hP
            clear hP
            obtain ⟨t, ht⟩ : ∃ t : Int, (n : Int) - m = t := ⟨_, rfl⟩
            have HT := Lib.hid ht
            rw [ht] at HSI HLN hgt
            rw [ht]
            clear ht
            have ht1 : t ≤ 7 := by have := HT.out; omega
            go_wp2_with fail
            go_loopw [9, 6] (fun i s wr => ∃ k : Nat, k ≤ len ∧ i = .int .i64 k ∧ OwnE 3 enc3 28 w.heap.size wr s (P ++ cls (xs.take k) f t) ∧ Below w.heap.size w wr) (fun i _ _ => len - (intOf i).toNat)
            case atStart => exact ⟨0, by omega, rfl, by simp only [List.take_zero, cls, List.filter_nil, List.append_nil]; exact HO3.out, HR3.out⟩
            case round =>
              obtain ⟨k, hk, rfl, hown, hbr⟩ := hrel
              have HO4 := Lib.hid hown
              have HR4 := Lib.hid hbr
              clear hown hbr
              by_cases hlk : k < len
              · obtain ⟨bb, off, x, y, z, rfl, hbl, hx, hd, g0, g1, g2⟩ := at3 H.out HR4.out hlk
                have HN := Lib.hid (cls_next (f : Int) t hx)
                have HLK := Lib.hid (HLN.out k)
                clear hx hd
                by_cases e1 : x = (f : Int)
                · by_cases e2 : y = t
                  · have f1 : (x == (f : Int)) = true := by simpa using e1
                    have f2 : (y == t) = true := by simpa using e2
                    have hn' := HN.out
                    rw [if_pos ⟨e1, e2⟩] at hn'
                    have HN' := Lib.hid hn'
                    have hsz := HR4.out.size
                    have E1 := Lib.hid e1
                    have E2 := Lib.hid e2
                    clear hn' e1 e2
                    generalize cls (xs.take k) (f : Int) t = C at *
                    have n1 : ((P ++ C).length + 1) * 24 ≤ 140737488355328 := by have := HLK.out; omega
                    have n2 : (P ++ C).length + 1 ≤ maxLen := by have := HLK.out; unfold maxLen; omega
                    go_wp2_with (at_builtin; refine wpList_push 3 24 28 enc3 enc3_len enc3_one (by omega) ⟨x, y, z⟩ _ _ rfl rfl _ _ _ rfl Try.underlying23 info_conP rfl w.heap.size _ (P ++ C) rfl rfl rfl HO4.out n1 n2 hsz ?_; intro v' w' hown' hg'; have HO' := Lib.hid hown'; have HB' := Lib.hid (below_grown HR4.out hg' HO4.out (Nat.le_refl _)); clear hown' hg')
                    go_roundw
                    case rel => exact ⟨k + 1, by omega, by go_num, by rw [HN'.out, ← List.append_assoc]; exact HO'.out, HB'.out⟩
                    case measure => simp [intOf]; omega
                  · have f1 : (x == (f : Int)) = true := by simpa using e1
                    have f2 : (y == t) = false := by simpa using e2
                    have hn' := HN.out
                    rw [if_neg (fun h => e2 h.2), List.append_nil] at hn'
                    have HN' := Lib.hid hn'
                    clear hn' e1 e2
                    go_wp2_with fail
                    go_roundw
                    case rel => exact ⟨k + 1, by omega, by go_num, by rw [HN'.out]; exact HO4.out, HR4.out⟩
                    case measure => simp [intOf]; omega
                · have f1 : (x == (f : Int)) = false := by simpa using e1
                  have hn' := HN.out
                  rw [if_neg (fun h => e1 h.1), List.append_nil] at hn'
                  have HN' := Lib.hid hn'
                  clear hn' e1
                  go_wp2_with fail
                  go_roundw
                  case rel => exact ⟨k + 1, by omega, by go_num, by rw [HN'.out]; exact HO4.out, HR4.out⟩
                  case measure => simp [intOf]; omega
              · have hx : xs.take k = xs := List.take_of_length_le (by have := HL.out; omega)
                rw [hx] at HO4
                clear hx
                have HT2 := Lib.hid (show t - 1 = (n : Int) - ((m + 1 : Nat) : Int) by have := HT.out; omega)
                go_wp2_with fail
                go_roundw
                case rel => exact ⟨m + 1, by omega, by rw [HT2.out], by rw [HSI.out, ← List.append_assoc, HP.out]; exact HO4.out, HR4.out⟩
                case measure => simp [intOf]; omega
          · have e : m = n - f := by omega
            subst e
            have hgt : ¬ (f : Int) < (n : Int) - ((n - f : Nat) : Int) := by omega
            go_wp2_with fail
            go_roundw
            case rel => exact ⟨f + 1, by omega, by go_num, by rw [HSO.out]; exact HO3.out, HR3.out⟩
            case measure => simp [intOf]; omega
      · have e : f = n := by omega
        subst e
        go_wp2_with fail
        refine (specBillValid_any A f len cap xs _ (H.out.below HR.out) (by omega)).mono ?_
        intro e w2 hp
        obtain ⟨rfl, hb2⟩ := hp.yes HB.out
        have HR2 := Lib.hid (below_trans HR.out hb2)
        have HO2 := Lib.hid (HO.out.below hb2 (Nat.le_refl _))
        clear hb2 hp HO HR
        go_wp2_with fail
        go_ret2
        exact ⟨_, rfl, HO2.out, HR2.out⟩
  · have HB := Lib.hid hB
    clear hB
    go_enter Try.func56, Try.ntmps56
    go_wp2_with fail
    go_loopw [7, 6, 8, 9] (fun i s _ _ wr => i = .int .i64 0 ∧ OwnE 3 enc3 28 w.heap.size wr s ([] : List T3) ∧ Below w.heap.size w wr) (fun _ _ _ _ _ => 0)
    case atStart => exact ⟨rfl, own_new w _ _ (Nat.le_refl _) enc3_len [] #[] rfl (by simp) rfl, below_alloc (Below.refl _ _) _⟩
    case round =>
      obtain ⟨rfl, hown, hbr⟩ := hrel
      have HO := Lib.hid hown
      have HR := Lib.hid hbr
      clear hown hbr
      by_cases h0 : 0 < n
      · go_wp2_with fail
        refine (specBillValid_any A n len cap xs _ (H.out.below HR.out) (by omega)).mono ?_
        intro e w2 hp
        obtain ⟨rfl, hb2⟩ := hp.no HB.out
        have HR2 := Lib.hid (below_trans HR.out hb2)
        have HO2 := Lib.hid (HO.out.below hb2 (Nat.le_refl _))
        clear hb2 hp HO HR
        go_wp2_with fail
        refine (specBillValid_any A n len cap xs _ (H.out.below HR2.out) (by omega)).mono ?_
        intro e w3 hp
        obtain ⟨rfl, hb3⟩ := hp.no HB.out
        have HR3 := Lib.hid (below_trans HR2.out hb3)
        have HO3 := Lib.hid (HO2.out.below hb3 (Nat.le_refl _))
        clear hb3 hp HO2 HR2
        go_wp2_with fail
        go_ret2
        exact ⟨_, rfl, HO3.out, HR3.out⟩
      · go_wp2_with fail
        refine (specBillValid_any A n len cap xs _ (H.out.below HR.out) (by omega)).mono ?_
        intro e w2 hp
        obtain ⟨rfl, hb2⟩ := hp.no HB.out
        have HR2 := Lib.hid (below_trans HR.out hb2)
        have HO2 := Lib.hid (HO.out.below hb2 (Nat.le_refl _))
        clear hb2 hp HO HR
        go_wp2_with fail
        go_ret2
        exact ⟨_, rfl, HO2.out, HR2.out⟩
end Go.Proofs.Ytdfgogcefnamcaa
