/- The law TreeCompiles. -/
import Derived.Test.YtdankjhjmaehiaaTr10
namespace Go.Proofs.Ytdankjhjmaehiaa.Tr
open Go.RowKit Go.Maps Go.Proofs.Ytdankjhjmaehiaa.Wd Go.Proofs.Ytdankjhjmaehiaa.Li Go.Proofs.Ytdankjhjmaehiaa.Mp Go.Proofs.Ytdankjhjmaehiaa.Tp Go.Proofs.Ytdankjhjmaehiaa.Cl Go.Proofs.Ytdankjhjmaehiaa.So Go.Proofs.Ytdankjhjmaehiaa.Sw
attribute [local go_sem] run_store_float Lx.opX Rel.oneOk
attribute [local irreducible] Lx.wpX

end Go.Proofs.Ytdankjhjmaehiaa.Tr
