/-
  NameTells, the walk: every text's names, category, hash, link. Conditions: none.
-/
import Derived.Test.YtijomegcomjbmaaDoorN2
import Derived.Test.YtijomegcomjbmaaDoorN4
import Derived.Test.YtijomegcomjbmaaDoorN5
import Derived.Test.YtijomegcomjbmaaDoorRDig
namespace Go.Proofs.YtijomegcomjbmaaDoor
open Go.RowKit Go.Lib

theorem tells_bad (s : ByteArray) (v : Int) (hbad : 300 < s.size) (W : World) (ht : Tab W) : Calls Tryd.prog 7 #[.string s, .int .i64 v] W fun en w' => en = .returned (.bool true) ∧ Below W.heap.size W w' := by
  have h1 : (300 : Int) < (s.size : Int) := by omega
  have HT := Lib.hid ht; clear ht
  go_enter Tryd.func7, Tryd.ntmps7
  go_wp2_with fail
  refine (alive_any W HT.out).mono ?_
  rintro en w1 ⟨rfl, b1⟩
  go_wp2
  go_ret
  exact ⟨rfl, b1⟩

set_option maxRecDepth 100000 in
set_option maxHeartbeats 2000000 in
theorem tells_good (s : ByteArray) (v : Int) (hs : s.size ≤ 300) (h0 : -9223372036854775808 ≤ v) (h1 : v ≤ 9223372036854775807) (W : World) (ht : Tab W) : Calls Tryd.prog 7 #[.string s, .int .i64 v] W fun en w' => en = .returned (.bool true) ∧ Below W.heap.size W w' := by
  have HT := Lib.hid ht; clear ht
  have hs1 : s.size ≤ 1000000 := by omega
  have HC := Lib.hid (fun w => category_any s hs1 w)
  have HRC := Lib.hid (fun w => rcategory_any s hs1 w)
  have HU := Lib.hid (fun w => unlink_any s hs1 w)
  have HRU := Lib.hid (fun w => runlink_any s hs1 w)
  have HS := Lib.hid (fun w => stream_any s w)
  have HRS := Lib.hid (fun w => rstream_any s w)
  have HTY := Lib.hid (fun w => type_any s w)
  have HY := Lib.hid (fun w => system_any s w)
  have HRY := Lib.hid (fun w => rsystem_any s w)
  have HH := Lib.hid (fun w => hash_any s hs1 w)
  have HRH := Lib.hid (fun w => rhash_any s hs1 w)
  have HD := Lib.hid (fun w => rdigits_any v h0 h1 w)
  have hl := itoa_length_le v h0 h1
  have hz : (⟨(itoa v).toArray⟩ : ByteArray).size ≤ 21 := by
    show (itoa v).toArray.size ≤ 21
    simpa using hl
  have hv : (⟨(linkOf v s.data.toList).toArray⟩ : ByteArray) = (⟨(itoa v).toArray⟩ ++ ⟨#[64]⟩ : ByteArray) ++ s := by
    apply ByteArray.ext; apply Array.ext'
    simp [linkOf, ByteArray.data_append]
  have HL := Lib.hid (fun w (h : Tab w) => link_any v h0 h1 s hs1 w h)
  rw [hv] at HL
  have HOC := Lib.hid (fun w => ofCategory s hs1 w)
  have HOT := Lib.hid (fun w => ofType s hs1 w)
  clear hv hl
  revert HC HRC HU HRU HS HRS HTY HY HRY HH HRH HD HL hz
  generalize (⟨(itoa v).toArray⟩ : ByteArray) = d
  generalize categoryOf s.data.toList = rc
  generalize unlinkOf s.data.toList = ru
  generalize streamB s.data.toList = st
  generalize systemB s.data.toList = sy
  generalize hashX s.data.toList = hx
  obtain ⟨cx, co⟩ := rc
  obtain ⟨ua, ut, ue⟩ := ru
  unfold catTells linkTells
  simp only []
  generalize (⟨cx.toArray⟩ : ByteArray) = C
  generalize (⟨ut.toArray⟩ : ByteArray) = U
  intro HC HRC HU HRU HS HRS HTY HY HRY HH HRH HD hz HL
  have hz2 : (d ++ ⟨#[64]⟩ : ByteArray).size ≤ 22 := by rw [ByteArray.size_append]; show d.size + 1 ≤ 22; omega
  have g1 : ¬ (300 : Int) < (s.size : Int) := by omega
  go_enter Tryd.func7, Tryd.ntmps7
  go_wp2_with fail
  refine (HC.out W).mono ?_
  rintro en w1 ⟨rfl, b1⟩
  go_wp2_with fail
  refine (HRC.out w1).mono ?_
  rintro en w' ⟨rfl, rfl⟩
  go_wp2_with fail
  refine (HU.out w1).mono ?_
  rintro en w2 ⟨rfl, b2⟩
  have b3 := b1.trans (b2.mono b1.size)
  clear b1 b2
  go_wp2_with fail
  refine (HRU.out w2).mono ?_
  rintro en w3 ⟨rfl, b4⟩
  have b5 := b3.trans (b4.mono b3.size)
  clear b3 b4
  go_wp2_with fail
  refine (alive_any w3 (HT.out.below b5)).mono ?_
  rintro en w4 ⟨rfl, b6⟩
  have b7 := b5.trans (b6.mono b5.size)
  clear b5 b6
  go_wp2_with fail
  refine (HS.out w4).mono ?_
  rintro en w' ⟨rfl, rfl⟩
  go_wp2_with fail
  refine (HRS.out w4).mono ?_
  rintro en w' ⟨rfl, rfl⟩
  go_wp2_with fail
  refine (HTY.out w4).mono ?_
  rintro en w' ⟨rfl, rfl⟩
  go_wp2_with fail
  refine (HRS.out w4).mono ?_
  rintro en w' ⟨rfl, rfl⟩
  go_wp2_with fail
  refine (HY.out w4).mono ?_
  rintro en w' ⟨rfl, rfl⟩
  go_wp2_with fail
  refine (HRY.out _).mono ?_
  rintro en w' ⟨rfl, rfl⟩
  go_wp2_with fail
  refine (HH.out _).mono ?_
  rintro en w' ⟨rfl, rfl⟩
  go_wp2_with fail
  refine (HRH.out _).mono ?_
  rintro en w' ⟨rfl, rfl⟩
  go_wp2_with fail
  refine (HL.out _ (HT.out.below b7)).mono ?_
  rintro en w5 ⟨rfl, b8⟩
  have b9 := b7.trans (b8.mono b7.size)
  clear b7 b8
  go_wp2_with fail
  refine (HD.out w5).mono ?_
  rintro en w6 ⟨rfl, b10⟩
  have b11 := b9.trans (b10.mono b9.size)
  clear b9 b10
  go_wp2_with fail
  refine (HOC.out w6).mono ?_
  rintro en w' ⟨rfl, rfl⟩
  go_wp2_with fail
  refine (HOT.out w6).mono ?_
  rintro en w' ⟨rfl, rfl⟩
  go_wp2
  go_ret
  exact ⟨rfl, b11⟩
end Go.Proofs.YtijomegcomjbmaaDoor
