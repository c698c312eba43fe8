/- The walks of layer 5, continued: Seal. -/
import Derived.Test.YtpckfnafcmifpaaSealWalks
import Derived.Deep.DeepMust
namespace Go.Proofs.Ytpckfnafcmifpaa.Seal
open Go.RowKit Go.Proofs.Ytpckfnafcmifpaa.Mem Go.Proofs.Ytpckfnafcmifpaa.Crc

end Go.Proofs.Ytpckfnafcmifpaa.Seal
