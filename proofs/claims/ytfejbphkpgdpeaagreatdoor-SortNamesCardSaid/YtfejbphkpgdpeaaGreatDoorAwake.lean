/- parse.Parse of about:blank?x#y, without a base. No condition. -/
import Derived.Test.YtfejbphkpgdpeaaGreatDoorParseSG
import Derived.Test.YtfejbphkpgdpeaaGreatDoorSchO
namespace Go.Proofs.YtfejbphkpgdpeaaGreatDoor
open Go.RowKit

/-- about:blank?x#y -/
def aw : Bs := [97, 98, 111, 117, 116, 58, 98, 108, 97, 110, 107, 63, 120, 35, 121]
/-- Its URL. -/
def awU : Url := ⟨[97, 98, 111, 117, 116], [], [], [], false, -1, true, [98, 108, 97, 110, 107], [], true, true, [120], [121]⟩
theorem aw_scheme : schemeP (sB aw) = some ([97, 98, 111, 117, 116], [98, 108, 97, 110, 107]) := by kernel_rfl
theorem aw_len : (clean aw).length = 15 := by kernel_rfl
theorem aw_bad : (schemed (start aw none)).bad = false := by kernel_rfl
theorem aw_url : (finish (schemed (start aw none))).u = awU := by kernel_rfl
theorem aw_q : (run aw none).query.length = 1 := by kernel_rfl
theorem aw_f : (run aw none).frag.length = 1 := by kernel_rfl
theorem aw_rest : (start aw none).rest.length = 5 := by kernel_rfl
theorem aw_file : ((start aw none).u.scheme == sFile) = false := by kernel_rfl
theorem aw_special : special (start aw none).u.scheme = false := by kernel_rfl
theorem aw_two : two (start aw none).rest = false := by kernel_rfl
theorem aw_head : ((start aw none).rest.head? == some 47) = false := by kernel_rfl

theorem parse_awake (w : World) (hG : Gl w) :
    Calls Tryz.prog 12 #[.string (str aw), .pointer none] w fun e w' => ∃ pv, e = .returned (.tuple #[.agg (urlCells awU pv).toArray, .int .i64 0]) ∧ Rd w' pv [] ∧ Below w.heap.size w w' := by
  refine (parse_Parse_some_good aw none ([97, 98, 111, 117, 116], [98, 108, 97, 110, 107]) none w hG rfl (by decide) (by rw [aw_len]; omega) ?_ (by rw [aw_q]; omega) (by rw [aw_f]; omega) aw_scheme aw_bad).mono ?_
  · intro w1 _ _ hP
    exact par_schemed_opaque _ _ w1 hP (by rw [aw_rest]; omega) aw_file aw_special aw_two aw_head
  · rintro e w' ⟨pv, rfl, hr, hb⟩
    rw [aw_url] at hr ⊢
    exact ⟨pv, rfl, hr, hb⟩
end Go.Proofs.YtfejbphkpgdpeaaGreatDoor
