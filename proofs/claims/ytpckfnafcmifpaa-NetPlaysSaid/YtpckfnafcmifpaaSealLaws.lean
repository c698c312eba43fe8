/- The laws of layer 5, as walks. -/
import Derived.Test.YtpckfnafcmifpaaSealWalksB
import Derived.Test.YtpckfnafcmifpaaSealWalksC
import Derived.Test.YtpckfnafcmifpaaSpoil
import Derived.Deep.QuietTactic
import Derived.BigQuiet
namespace Go.Proofs.Ytpckfnafcmifpaa.Seal
open Go.RowKit Go.Proofs.Ytpckfnafcmifpaa.Mem Go.Proofs.Ytpckfnafcmifpaa.Crc

theorem sealed7 : sealed 7 [] = [7, 46, 122, 102, 76] := by decide +kernel
theorem spoilt7 : spoilt [7, 46, 122, 102, 76] (firstBit [7, 46, 122, 102, 76] 0) 1 = [6, 46, 122, 102, 76] := by decide +kernel
end Go.Proofs.Ytpckfnafcmifpaa.Seal
