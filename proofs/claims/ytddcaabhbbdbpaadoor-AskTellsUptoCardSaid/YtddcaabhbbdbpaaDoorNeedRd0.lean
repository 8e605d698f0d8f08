/- Texts cut at their front. -/
import Derived.Test.YtddcaabhbbdbpaaDoorBtsP
namespace Go.Proofs.YtddcaabhbbdbpaaDoor.Nr
open Go.Proofs.YtddcaabhbbdbpaaDoor.Tp
theorem ext_take (x : Bs) (n : Nat) : (bts x).extract 0 n = bts (x.take n) := by
  apply ByteArray.ext
  apply Array.toList_inj.1
  show ((bts x).extract 0 n).data.toList = x.take n
  rw [ByteArray.data_extract]
  simp [bts]
theorem ext_drop (x : Bs) (n : Nat) : (bts x).extract n x.length = bts (x.drop n) := by
  apply ByteArray.ext
  apply Array.toList_inj.1
  show ((bts x).extract n x.length).data.toList = x.drop n
  rw [ByteArray.data_extract]
  simp [bts]
  exact List.take_of_length_le (by simp)
end Go.Proofs.YtddcaabhbbdbpaaDoor.Nr
